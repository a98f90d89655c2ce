/- The walk of blooms.Has. -/
import Derived.Test.YtebledknjfojlaaDoorPlaces
import Derived.Test.YtebledknjfojlaaDoorBloomLaw
set_option linter.unusedSimpArgs false
set_option linter.unusedVariables false
namespace Herb
open Go Go.RowKit in
/-- A bool that is handed back out of a cell. -/
theorem results_cell_bool {P : Program} {fn : Func} {p : Tmp} {ty : TypeId} (h : fn.results = #[.cell p ty]) (tmps : Array Value) (w : World) (g : Nat) (b : Bool)
    (hp : tmps.getD p undef = .pointer (some ⟨g, 0, none⟩)) (hu : P.underlying ty = some .bool) (hc : w.cell? ⟨g, 0, none⟩ = some (.bool b)) : (results fn tmps).run P w = .ok (.bool b) w := by
  have hp' : tmps[p]?.getD undef = .pointer (some ⟨g, 0, none⟩) := by simpa using hp
  simp [results, h, hp', asAddr, loadVar, isAgg, run_underlying hu, hc, go_sem]
end Herb
namespace Go.Proofs.YtebledknjfojlaaDoor
open Go Go.RowKit Go.Shelf Herb
attribute [local go_sem] Oper.semAt_some

set_option maxRecDepth 100000 in
set_option maxHeartbeats 1600000 in
theorem has_any (w : World) (A : Option Addr) (n c : Nat) (l : List UInt8) (hln : l.length = n) (hn : n ≤ 10000000) (hb : Bs w A l) (key : ByteArray) (kl : List UInt8) (hkl : key.data.toList = kl) (kn : Nat) (hkn : key.size = kn) (hk : kn ≤ 140737488355328) :
    Calls Tryd.prog 13 #[.slice A n c, .string key] w fun e w' => e = .returned (.bool (hasP l kl)) ∧ Below w.heap.size w w' := by
  obtain ⟨H, hH⟩ : ∃ H, hasP l kl = H := ⟨_, rfl⟩
  refine (callsIn_wide (n := 9)).1 ?_
  refine callsIn_of_wp_marks Tryd.func13 rfl trivial ?_ rfl
  simp only [Tryd.ntmps13, List.size_toArray, List.length_cons, List.length_nil, Nat.reduceAdd, Nat.reduceSub, Array.replicate_succ, Array.replicate_zero, List.push_toArray, List.append_toArray, List.nil_append, List.cons_append]
  have bB := (Boxed.new w 26 (.slice A n c)).alloc (.cells #[.bool false] 4)
  have bR := Boxed.new (w.alloc (.cells #[.slice A n c] 26)) 4 (.bool false)
  rw [World.size_alloc] at bR
  have hB1 := ((Below.refl w.heap.size w).alloc (Nat.le_refl _) (.cells #[.slice A n c] 26)).alloc (by simp) (.cells #[.bool false] 4)
  have hbc := bB.cell
  have hrf := bR.frozen
  have hrc := bR.cell
  have hA := (hb.alloc (.cells #[.slice A n c] 26)).alloc (.cells #[.bool false] 4)
  rw [hH]
  replace hln := Lib.hid hln
  replace hkl := Lib.hid hkl
  by_cases h9 : n < 9
  · have hf : H = true := by rw [← hH]; unfold hasP; rw [if_pos (.inl (by rw [hln.out]; exact h9))]
    subst hf
    gi_wp2
    refine ⟨_, results_cell_bool rfl _ _ (w.heap.size + 1) true rfl Tryd.underlying4 (by simp), rfl, ?_⟩
    exact ((Below.refl w.heap.size w).alloc (Nat.le_refl _) _).alloc (by simp) _
  · obtain ⟨N, hN⟩ : ∃ N, n = N + 1 := ⟨n - 1, by omega⟩
    subst hN
    obtain ⟨b, off, rfl, hblt, hcells⟩ := hA.at_ (k := N) (by rw [hln.out]; omega)
    have hcN := hcells N (by rw [hln.out]; omega)
    have hlast : l.getD (l.length - 1) 0 = l[N]'(by rw [hln.out]; omega) := by
      have e : l.length - 1 = N := by rw [hln.out]; omega
      rw [e]
      simp [List.getD, show N < l.length by rw [hln.out]; omega]
    have hx := (l[N]'(by rw [hln.out]; omega)).toNat_lt
    obtain ⟨x, hxe⟩ : ∃ x, (l[N]'(by rw [hln.out]; omega)).toNat = x := ⟨_, rfl⟩
    rw [hxe] at hcN hx
    by_cases h6 : x = 6
    · subst h6
      obtain ⟨M, hM⟩ : ∃ M, 8 * N = M := ⟨_, rfl⟩
      have hM0 : 0 < M := by omega
      have hMi : 8 * (N : Int) = (M : Int) := by omega
      have hMN : M ≤ 80000000 := by omega
      replace hM := Lib.hid hM
      have hH2 : Hid (H = (placesS (more 0 kl) M hM0).all (fun x => bitAt l x.1)) := Lib.hid (by
        rw [placesS_all, ← hM.out]
        rw [← hH]
        unfold hasP
        rw [if_neg (by rw [hlast, hxe, hln.out]; omega), hln.out]
        rfl)
      clear hH hlast hxe
      gi_wp2_with fail
      have hw0 := hB1.size
      generalize hW0 : (w.alloc (.cells #[.slice (some ⟨b, off, none⟩) (N + 1) c] 26)).alloc (.cells #[.bool false] 4) = w0 at *
      have hsz : w0.heap.size = w.heap.size + 2 := by rw [← hW0]; simp
      clear hW0
      refine ⟨trivial, (places_in _ key M w0).mono ?_⟩
      rintro _ w1 ⟨rfl, rfl⟩
      have bK := (Boxed.new w0 9 (.string key)).alloc (.cells #[.int .i64 (M : Int)] 3)
      have bM := Boxed.new (w0.alloc (.cells #[.string key] 9)) 3 (.int .i64 (M : Int))
      rw [World.size_alloc] at bM
      rw [hsz] at bK bM
      have bB2 := (bB.alloc (.cells #[.string key] 9)).alloc (.cells #[.int .i64 (M : Int)] 3)
      have bR2 := (bR.alloc (.cells #[.string key] 9)).alloc (.cells #[.int .i64 (M : Int)] 3)
      have hB2 := (hB1.alloc (by omega) (.cells #[.string key] 9)).alloc (by simp; omega) (.cells #[.int .i64 (M : Int)] 3)
      have hsz1 : ((w0.alloc (.cells #[.string key] 9)).alloc (.cells #[.int .i64 (M : Int)] 3)).heap.size = w.heap.size + 4 := by simp; omega
      generalize (w0.alloc (.cells #[.string key] 9)).alloc (.cells #[.int .i64 (M : Int)] 3) = w1 at *
      clear hbc hrf hrc hcells hcN hA bB bR
      gi_wp2_with fail
      refine wpIn_rangeFunc_ownG rfl (by omega) (gf := 21) (lb := #[.pointer (some ⟨w.heap.size + 2, 0, none⟩), .pointer (some ⟨w.heap.size + 2 + 1, 0, none⟩)]) rfl trivial (enters_of Tryd.func21 (by kernel_rfl) rfl)
        (places_stops _ (w.heap.size + 2) M key kl hkl.out kn hkn hk hM0 (by omega) w1 bK bM) keeps2_t (keeps2_b (by omega)) (Below.refl _ _) (fun _ => rfl)
        (fun pre W => Boxed W w.heap.size 26 (.slice (some ⟨b, off, none⟩) (N + 1) c) ∧ Boxed W (w.heap.size + 1) 4 (.bool false) ∧ pre.all (fun x => bitAt l x.1) = true ∧ Below w.heap.size w W)
        (fun cd pre W => cd = .ret ∧ Boxed W (w.heap.size + 1) 4 (.bool false) ∧ pre.all (fun x => bitAt l x.1) = false ∧ Below w.heap.size w W)
        (OwnFrom.and (Own.from (boxed_own _ _ _) _) (OwnFrom.and (Own.from (boxed_own _ _ _) _) (OwnFrom.and (fun s W W' row h _ _ => h) (ownFrom_below (Nat.le_refl _) (by omega)))))
        (fun cd => OwnFrom.and (fun s W W' row h _ _ => h) (OwnFrom.and (Own.from (boxed_own _ _ _) _) (OwnFrom.and (fun s W W' row h _ _ => h) (ownFrom_below (Nat.le_refl _) (by omega)))))
        ⟨bB2, bR2, rfl, hB2⟩
        (fun x => { tmps := #[.slice (some ⟨b, off, none⟩) (N + 1) c, .string key, .pointer (some ⟨w.heap.size, 0, none⟩), undef, .pointer (some ⟨w.heap.size + 1, 0, none⟩), .int .i64 (x.1 : Int), .slice (some ⟨b, off, none⟩) (N + 1) c, .int .i64 ((N : Int) + 1), .bool (decide ((N : Int) + 1 ≤ 8)), .bool (decide ((N : Int) + 1 ≤ 8)), .slice (some ⟨b, off, none⟩) (N + 1) c, .slice (some ⟨b, off, none⟩) (N + 1) c, .int .i64 ((N : Int) + 1), .int .i64 (N : Int), .pointer (some ⟨b, off + N, none⟩), .int .u8 6, .bool false, .bool (decide ((N : Int) + 1 ≤ 8)), .string key, .slice (some ⟨b, off, none⟩) (N + 1) c, .int .i64 ((N : Int) + 1), .int .i64 (N : Int), .int .i64 (M : Int), .func (.func 21) #[] #[.pointer (some ⟨w.heap.size + 2, 0, none⟩), .pointer (some ⟨w.heap.size + 2 + 1, 0, none⟩)], .int .i64 (x.1 : Int), undef, undef, undef, undef, undef, undef, undef, undef, undef, undef], defers := [] }) ?assign ?body ?done ?stop
      case assign =>
        intro l x W K hK
        simp only [encN]
        gi_wp2
        exact hK
      case body =>
        rintro lp pre ⟨x, hx⟩ W ⟨hbx, hrx, hall, hB⟩ hlen
        have hM' := hM.out
        have hx8 : x / 8 < N := by omega
        obtain ⟨_, _, e, hq, hcs⟩ := (hb.below hB).at_ (k := x / 8) (by rw [hln.out]; omega)
        cases e
        have hcx := hcs (x / 8) (by rw [hln.out]; omega)
        have hgd : l.getD (x / 8) 0 = l[x / 8]'(by rw [hln.out]; omega) := by simp [List.getD, show x / 8 < l.length by rw [hln.out]; omega]
        have hyl := (l[x / 8]'(by rw [hln.out]; omega)).toNat_lt
        have hbit : bitAt l x = ((l[x / 8]'(by rw [hln.out]; omega)).toNat / 2 ^ (x % 8) % 2 == 1) := by unfold bitAt; rw [hgd]
        generalize (l[x / 8]'(by rw [hln.out]; omega)).toNat = y at hcx hyl hbit
        have hand : bits .and .u8 ((y : Int) / 2 ^ (x % 8)) 1 = ((y / 2 ^ (x % 8) % 2 : Nat) : Int) := by
          have h := u8_and_nat (y / 2 ^ (x % 8)) 1 (Nat.lt_of_le_of_lt (Nat.div_le_self _ _) (by omega)) (by omega)
          rw [Nat.and_one_is_mod] at h
          rw [← h]
          congr 1
        have hbc := hbx.cell
        have hrc := hrx.cell
        have hrf := hrx.frozen
        have hxi : (x : Int) / 8 < (N : Int) + 1 := by omega
        clear hcs hgd hM'
        rcases Nat.mod_two_eq_zero_or_one (y / 2 ^ (x % 8)) with h2 | h2
        · rw [h2] at hand hbit
          gi_wp2
          exact ⟨(KeepsOthers.setCell _ _ _).from _, rfl, hrx.set _, by rw [List.all_append, hall]; simp [hbit], hB.setCell (p := ⟨w.heap.size + 1, 0, none⟩) (by simp) _⟩
        · rw [h2] at hand hbit
          gi_wp2
          exact ⟨KeepsFrom.refl _ _, ⟨rfl, rfl⟩, hbx, hrx, by rw [List.all_append, hall]; simp [hbit], hB⟩
      case done =>
        rintro D xs W hD rfl ⟨hbx, hrx, hall, hB⟩ hK
        have hf : H = true := by rw [hH2.out]; exact hall
        subst hf
        have hrc := hrx.cell
        have hrf := hrx.frozen
        gi_wp2
        have hK' := (KeepsOthers.setCell W ⟨w.heap.size + 1, 0, none⟩ (.bool true)).same D _ hK rfl
        have hB' := hB.setCell (p := ⟨w.heap.size + 1, 0, none⟩) (by simp) (.bool true)
        have hr' := hrx.set (.bool true)
        refine ⟨by simp, .inl ⟨_, _, rfl, run_takeDeferred hK', ?_⟩⟩
        refine ⟨_, results_cell_bool rfl _ _ (w.heap.size + 1) true rfl Tryd.underlying4 (Boxed.kept hr' (grownBy_putObj' _ D _) (by simp; omega)).cell, rfl, ?_⟩
        exact hB'.trans (belowK_b (w := w1) (by omega) _ D _ _ (by omega) hK' rfl rfl)
      case stop =>
        rintro D cd pre W hD hpre ⟨rfl, hrx, hall, hB⟩ hK
        have hf : H = false := by
          rw [hH2.out]
          obtain ⟨t, ht⟩ := hpre
          rw [← ht, List.all_append, hall, Bool.false_and]
        subst hf
        have hrc := hrx.cell
        gi_wp2
        refine ⟨by simp, .inl ⟨_, _, rfl, run_takeDeferred hK, ?_⟩⟩
        refine ⟨_, results_cell_bool rfl _ _ (w.heap.size + 1) false rfl Tryd.underlying4 (Boxed.kept hrx (grownBy_putObj' _ D _) (by simp; omega)).cell, rfl, ?_⟩
        exact hB.trans (belowK_b (w := w1) (by omega) _ D _ _ (by omega) hK rfl rfl)
    · have hf : H = true := by rw [← hH]; unfold hasP; rw [if_pos (.inr (by rw [hlast, hxe]; exact h6))]
      subst hf
      have hne : ((x : Int) != 6) = true := by simp; omega
      clear hH hlast hxe
      gi_wp2
      refine ⟨_, results_cell_bool rfl _ _ (w.heap.size + 1) true rfl Tryd.underlying4 (by simp) , rfl, ?_⟩
      exact ((Below.refl w.heap.size w).alloc (Nat.le_refl _) _).alloc (by simp) _
end Go.Proofs.YtebledknjfojlaaDoor
