/- The walk of skips' ahead. -/
import Derived.Test.YtidnhcningkcaaaDoorSkOps
import Derived.Test.YtidnhcningkcaaaDoorBlkOps
set_option linter.unusedSimpArgs false
set_option linter.unusedVariables false
namespace Herb
open Go Go.RowKit
/-- A tower of which the floors from m on are laid. -/
def towL (T : Nat → Nat) (m : Nat) : List Value := (List.range 8).map fun f => .int .i64 ((if m ≤ f then T f else 0 : Nat) : Int)
theorem towL_length (T : Nat → Nat) (m : Nat) : (towL T m).length = 8 := by simp [towL]
theorem towL_get (T : Nat → Nat) (m f : Nat) (hf : f < 8) : (towL T m)[f]? = some (.int .i64 ((if m ≤ f then T f else 0 : Nat) : Int)) := by
  simp [towL, hf]
theorem towL_set (T : Nat → Nat) (m : Nat) (hm : m < 8) : (towL T (m + 1)).toArray.setIfInBounds m (.int .i64 (T m : Int)) = (towL T m).toArray := by
  rw [List.setIfInBounds_toArray]
  congr 1
  apply List.ext_getElem?
  intro f
  rw [List.getElem?_set, towL_length]
  rcases Nat.lt_or_ge f 8 with hf | hf
  · rw [towL_get _ _ _ hf, towL_get _ _ _ hf]
    by_cases e : m = f
    · subst e
      simp [hm]
    · rw [if_neg e]
      by_cases h1 : m ≤ f
      · rw [if_pos h1, if_pos (by omega)]
      · rw [if_neg h1, if_neg (by omega)]
  · rw [if_neg (by omega), List.getElem?_eq_none (by rw [towL_length]; exact hf), List.getElem?_eq_none (by rw [towL_length]; exact hf)]
theorem towL_zero (T : Nat → Nat) : towL T 8 = List.replicate 8 (.int .i64 0) := by
  apply List.ext_getElem?
  intro f
  rcases Nat.lt_or_ge f 8 with hf | hf
  · rw [towL_get _ _ _ hf, if_neg (by omega), List.getElem?_replicate, if_pos hf]
    rfl
  · rw [List.getElem?_eq_none (by rw [towL_length]; exact hf), List.getElem?_eq_none (by simpa using hf)]
theorem Inv.nodup0 {N : List Nd} {L : List Nat} {h : Nat → Nat} (I : Inv N L h) (K : List UInt8) (f : Nat) : (0 :: onFloor h f (aheadL N L K)).Nodup := by
  rw [List.nodup_cons]
  refine ⟨fun e => ?_, ?_⟩
  · unfold onFloor at e
    have := (I.lt 0 (ahead_mem (List.mem_filter.1 e).1)).1
    omega
  · exact (I.nodup.sublist (List.takeWhile_sublist _)).filter _
end Herb
namespace Go.Proofs.YtidnhcningkcaaaDoor
open Go Go.RowKit Herb
theorem tow_size : (Tryd.prog.info? 51).map (·.size) = some 8 := by kernel_rfl
theorem tow_cells (T : Nat → Nat) (m : Nat) : (Tryd.prog.info? 51).map (·.size) = some (towL T m).toArray.size := by rw [List.size_toArray, towL_length]; exact tow_size
theorem tow_all (T : Nat → Nat) (m : Nat) : (towL T m).toArray.all (·.oneCell') = true := by
  rw [Array.all_eq_true_iff_forall_mem]
  intro v hv
  simp only [towL, List.mem_toArray, List.mem_map] at hv
  obtain ⟨f, _, rfl⟩ := hv
  rfl
set_option maxRecDepth 100000 in
set_option maxHeartbeats 1600000 in
theorem ahead_any (w : World) (base p g cap : Nat) (N : List Nd) (L : List Nat) (h : Nat → Nat) (I : Inv N L h) (hS : SkAt w base p g cap N) (M : Nat) (hM : N.length = M) (hM2 : M ≤ 1000000) (K : List UInt8) (A : Option Addr) (n c : Nat) (hn : K.length = n) (hb : Bs w A K) :
    Calls Tryd.prog 18 #[.pointer (some ⟨p, 0, none⟩), .slice A n c] w
      fun e w' => e = .returned (.agg (towL (topOf N L h K) 0).toArray) ∧ Below w.heap.size w w' := by
  go_enter Tryd.func18, Tryd.ntmps18
  obtain ⟨T, hT⟩ : ∃ T, topOf N L h K = T := ⟨_, rfl⟩
  rw [hT]
  have kt0 : Blk (w.alloc (.cells #[.int .i64 0, .int .i64 0, .int .i64 0, .int .i64 0, .int .i64 0, .int .i64 0, .int .i64 0, .int .i64 0] 51)) w.heap.size 51 (towL T 8).toArray := by
    rw [towL_zero]
    exact Blk.new w _ _
  have b0 := (Below.refl w.heap.size w).alloc (Nat.le_refl _) (.cells #[.int .i64 0, .int .i64 0, .int .i64 0, .int .i64 0, .int .i64 0, .int .i64 0, .int .i64 0, .int .i64 0] 51)
  have hT' : ∀ f, topOf N L h K f = T f := fun f => by rw [hT]
  replace hT := Lib.hid hT
  replace hT' := Lib.hid hT'
  replace hM := Lib.hid hM
  replace hn := Lib.hid hn
  go_wp2
  go_loopw [5, 6] (fun a fl wr => ∃ i m : Nat, m ≤ 8 ∧ fl = .int .i64 ((m : Int) - 1) ∧ a = .int .i64 (i : Int) ∧ (i = 0 ∨ i ∈ aheadL N L K ∧ m ≤ h i) ∧ Blk wr w.heap.size 51 (towL T m).toArray ∧ Below w.heap.size w wr) (fun _ fl _ => (intOf fl + 1).toNat)
  case atStart => exact ⟨0, 8, by omega, rfl, rfl, .inl rfl, kt0, b0⟩
  case round =>
    clear kt0 b0
    obtain ⟨i, m, hm8, rfl, rfl, hi, kt, hbel⟩ := hrel
    rcases m with _ | f
    · have e1 : ((0 : Nat) : Int) - 1 = -1 := rfl
      rw [e1]
      go_wp2_with (first
        | (refine wpList_load_blk rfl 51 _ rfl w.heap.size rfl kt Tryd.underlying51 rfl (tow_cells T 0) ?_)
        | (refine wpList_store_same rfl 51 (.tmp 4) (.tmp 41) rfl w.heap.size rfl kt rfl (tow_cells T 0) (tow_all T 0) ?_))
      exact bodyPost_ret (results_blk rfl _ w.heap.size rfl kt Tryd.underlying51 rfl (tow_cells T 0)) rfl ⟨rfl, hbel⟩
    · have e1 : ((f + 1 : Nat) : Int) - 1 = (f : Int) := by omega
      rw [e1]
      clear e1
      have hf8 : f < 8 := by omega
      have hSr := hS.below hbel
      have hch := I.floor K f hf8
      have hsplit : ∃ X S, 0 :: onFloor h f (aheadL N L K) = X ++ i :: S := by
        refine List.append_of_mem ?_
        rcases hi with rfl | ⟨h1, h2⟩
        · simp
        · refine List.mem_cons_of_mem _ ?_
          unfold onFloor
          rw [List.mem_filter]
          exact ⟨h1, by simp; omega⟩
      have hbx := hSr.box.cell 0
      rw [hM.out] at hbx
      go_wp2
      go_loop [5] (fun a => ∃ (i : Nat) (X S : List Nat), a = .int .i64 (i : Int) ∧ 0 :: onFloor h f (aheadL N L K) = X ++ i :: S) (fun a => ((0 :: onFloor h f (aheadL N L K)).dropWhile (fun x => x != (intOf a).toNat)).length)
      case atStart => obtain ⟨X, S, hX⟩ := hsplit; exact ⟨i, X, S, rfl, hX⟩
      case round =>
        clear hsplit hi
        obtain ⟨i, X, S, rfl, hX⟩ := hrel
        have hiM : i < M := by
          have : i ∈ 0 :: onFloor h f (aheadL N L K) := by rw [hX]; simp
          rw [← hM.out]
          rcases List.mem_cons.1 this with rfl | h1
          · have := I.len; omega
          · unfold onFloor at h1
            exact (I.lt i (ahead_mem (List.mem_filter.1 h1).1)).2
        have hcx := hSr.cellNx I.ok8 (show i < N.length by rw [hM.out]; exact hiM) hf8
        have hnx : nxOf N f i = (S ++ onFloor h f (restL N L K)).headD 0 := by
          have := hch
          rw [hX, List.append_assoc] at this
          exact Chain.mid this
        rw [hnx] at hcx
        clear hnx
        rcases S with _ | ⟨s, S⟩
        · have hiT : i = T f := by rw [← hT'.out]; exact last_split hX
          have hi2 : i = 0 ∨ i ∈ aheadL N L K ∧ f ≤ h i := by
            have : i ∈ 0 :: onFloor h f (aheadL N L K) := by rw [hX]; simp
            rcases List.mem_cons.1 this with h1 | h1
            · exact .inl h1
            · unfold onFloor at h1
              have := (List.mem_filter.1 h1).2
              exact .inr ⟨(List.mem_filter.1 h1).1, by simp at this; omega⟩
          have hct := kt.cell f
          rw [List.getElem?_toArray, towL_get _ _ _ hf8, if_neg (by omega)] at hct
          have hft := kt.frozen f
          have hst := kt.store f (.int .i64 (i : Int))
          rw [hiT, towL_set T f hf8, ← hiT] at hst
          have hbel2 := hbel.setCell (p := ⟨w.heap.size, f, none⟩) (Nat.le_refl _) (.int .i64 (i : Int))
          replace hiT := Lib.hid hiT
          replace hi2 := Lib.hid hi2
          replace hX := Lib.hid hX
          clear hch
          rcases hB : onFloor h f (restL N L K) with _ | ⟨b, B⟩
          · rw [hB] at hcx
            simp only [List.nil_append, List.headD_nil] at hcx
            replace hB := Lib.hid hB
            go_wp2
            go_roundw
            case rel => exact ⟨i, f, by omega, rfl, rfl, hi2.out, hst, hbel2⟩
            case measure => simp [intOf] <;> omega
          · rw [hB] at hcx
            simp only [List.nil_append, List.headD_cons] at hcx
            have hbm : b ∈ restL N L K := by
              have : b ∈ onFloor h f (restL N L K) := by rw [hB]; simp
              unfold onFloor at this
              exact (List.mem_filter.1 this).1
            have hbl := I.lt b (rest_mem hbm)
            have hbk : less (N.getD b Nd.zero).key K = false := I.rest_not K hbm
            have hck := hSr.cellKey I.ok8 hbl.2
            have hkk := (hSr.keys _ (getD_mem hbl.2)).1.bs
            generalize N.getD b Nd.zero = d at hck hkk hbk
            obtain ⟨kb, nb, Ab, cb, xb⟩ := d
            simp only at hck hkk hbk
            obtain ⟨m, hm⟩ : ∃ m, kb.length = m := ⟨_, rfl⟩
            rw [hm] at hck
            have hge := cmpB_ge hbk
            have hpc := compare_bs wr Ab A kb K m cb n c hm hn.out hkk (hb.below hbel)
            generalize cmpB kb K = z at hge hpc
            have hb0 : ((b : Int) == 0) = false := by simp <;> omega
            have hbM : b < M := by rw [← hM.out]; exact hbl.2
            replace hB := Lib.hid hB
            replace hm := Lib.hid hm
            clear hbl hbk
            go_wp2_with fail
            refine hpc.mono ?_
            clear hpc
            rintro _ _ ⟨rfl, rfl⟩
            go_wp2
            go_roundw
            case rel => exact ⟨i, f, by omega, rfl, rfl, hi2.out, hst, hbel2⟩
            case measure => simp [intOf] <;> omega
        · simp only [List.cons_append, List.headD_cons] at hcx
          have hsm : s ∈ aheadL N L K := by
            have : s ∈ onFloor h f (aheadL N L K) := by
              have h1 := congrArg List.tail hX
              rw [List.tail_cons] at h1
              rw [h1]
              rcases X with _ | ⟨x, X⟩ <;> simp
            unfold onFloor at this
            exact (List.mem_filter.1 this).1
          have hbl := I.lt s (ahead_mem hsm)
          have hbk : less (N.getD s Nd.zero).key K = true := ahead_less hsm
          have hck := hSr.cellKey I.ok8 hbl.2
          have hkk := (hSr.keys _ (getD_mem hbl.2)).1.bs
          generalize N.getD s Nd.zero = d at hck hkk hbk
          obtain ⟨kb, nb, Ab, cb, xb⟩ := d
          simp only at hck hkk hbk
          obtain ⟨m, hm⟩ : ∃ m, kb.length = m := ⟨_, rfl⟩
          rw [hm] at hck
          have hge := cmpB_lt hbk
          have hpc := compare_bs wr Ab A kb K m cb n c hm hn.out hkk (hb.below hbel)
          rw [hge] at hpc
          have hb0 : ((s : Int) == 0) = false := by simp <;> omega
          have hbM : s < M := by rw [← hM.out]; exact hbl.2
          have hmes := drop_split hX (I.nodup0 K f)
          have hmes2 := drop_split (a := s) (X := X ++ [i]) (S := S) (by rw [hX]; simp) (I.nodup0 K f)
          replace hm := Lib.hid hm
          replace hX := Lib.hid hX
          replace hmes := Lib.hid hmes
          replace hmes2 := Lib.hid hmes2
          clear hbl hbk hge hch
          go_wp2_with fail
          refine hpc.mono ?_
          clear hpc
          rintro _ _ ⟨rfl, rfl⟩
          go_wp2
          go_round
          case rel => exact ⟨s, X ++ [i], S, rfl, by rw [hX.out]; simp⟩
          case measure =>
            show List.length (List.dropWhile (fun x => x != s) (0 :: onFloor h f (aheadL N L K))) < List.length (List.dropWhile (fun x => x != i) (0 :: onFloor h f (aheadL N L K)))
            rw [hmes.out, hmes2.out]
            simp
end Go.Proofs.YtidnhcningkcaaaDoor
