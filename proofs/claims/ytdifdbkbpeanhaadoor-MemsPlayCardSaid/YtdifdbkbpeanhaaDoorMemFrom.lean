/- The walks of mems' told (the function that it makes) and From. -/
import Derived.Test.YtdifdbkbpeanhaaDoorMemPut
set_option linter.unusedSimpArgs false
set_option linter.unusedVariables false
namespace Herb
open Go Go.RowKit
/-- The facts whose places are told. -/
def placed (fs : List Ft) (l : List (List UInt8 × Int)) : List Ft := l.map (fun x => fs.getD x.2.toNat Ft.zero)
theorem fromM_mem {M : List (List UInt8 × Int)} {K : List UInt8} {x : List UInt8 × Int} (h : x ∈ fromM M K) : x ∈ M := by
  unfold fromM at h
  exact (List.dropWhile_suffix _).subset h
end Herb
namespace Go.Proofs.YtdifdbkbpeanhaaDoor
open Go Go.RowKit Go.Shelf Herb
attribute [local go_sem] Oper.semAt_some
theorem told_any (w : World) (p : Addr) (Af : Option Addr) (nf cf : Nat) (C : Nat) :
    Calls Tryd.prog 30 #[.agg #[.pointer (some p), .slice Af nf cf], .func (.func 56) #[] #[.pointer (some ⟨C, 0, none⟩), .pointer (some ⟨C + 1, 0, none⟩)]] w
      fun e w' => ∃ By Bx, e = .returned (.func (.func 48) #[] #[.pointer (some ⟨By, 0, none⟩), .pointer (some ⟨Bx, 0, none⟩)]) ∧
        Boxed w' By 68 (.func (.func 56) #[] #[.pointer (some ⟨C, 0, none⟩), .pointer (some ⟨C + 1, 0, none⟩)]) ∧
        Blk w' Bx 54 #[.pointer (some p), .slice Af nf cf] ∧ Below w.heap.size w w' := by
  have k1 := (Blk.new w 54 #[.pointer (some p), .slice Af nf cf]).alloc (.cells #[.func (.func 56) #[] #[.pointer (some ⟨C, 0, none⟩), .pointer (some ⟨C + 1, 0, none⟩)]] 68)
  have k2 := Boxed.new (w.alloc (.cells #[.pointer (some p), .slice Af nf cf] 54)) 68 (.func (.func 56) #[] #[.pointer (some ⟨C, 0, none⟩), .pointer (some ⟨C + 1, 0, none⟩)])
  rw [World.size_alloc] at k2
  have b2 := ((Below.refl w.heap.size w).alloc (Nat.le_refl _) (.cells #[.pointer (some p), .slice Af nf cf] 54)).alloc (by simp) (.cells #[.func (.func 56) #[] #[.pointer (some ⟨C, 0, none⟩), .pointer (some ⟨C + 1, 0, none⟩)]] 68)
  go_enter Tryd.func30, Tryd.ntmps30
  go_wp2
  go_ret
  exact ⟨_, _, rfl, k2, k1, b2⟩

theorem mfrom_any (w : World) (q : Option Addr) (k : ByteArray) (va : Nat) :
    Calls Tryd.prog 33 #[.pointer q, .string k, .int .u32 (va : Int)] w
      fun e w' => e = .returned (.func (.func 50) #[] #[.pointer (some ⟨w.heap.size, 0, none⟩), .pointer (some ⟨w.heap.size + 1, 0, none⟩), .pointer (some ⟨w.heap.size + 2, 0, none⟩)]) ∧
        Boxed w' w.heap.size 30 (.pointer q) ∧ Boxed w' (w.heap.size + 1) 9 (.string k) ∧ Boxed w' (w.heap.size + 2) 23 (.int .u32 (va : Int)) ∧ Below w.heap.size w w' := by
  have k1 := ((Boxed.new w 30 (.pointer q)).alloc (.cells #[.string k] 9)).alloc (.cells #[.int .u32 (va : Int)] 23)
  have k2 := (Boxed.new (w.alloc (.cells #[.pointer q] 30)) 9 (.string k)).alloc (.cells #[.int .u32 (va : Int)] 23)
  have k3 := Boxed.new ((w.alloc (.cells #[.pointer q] 30)).alloc (.cells #[.string k] 9)) 23 (.int .u32 (va : Int))
  simp only [World.size_alloc] at k2 k3
  have b2 := (((Below.refl w.heap.size w).alloc (Nat.le_refl _) (.cells #[.pointer q] 30)).alloc (by simp) (.cells #[.string k] 9)).alloc (by simp; omega) (.cells #[.int .u32 (va : Int)] 23)
  go_enter Tryd.func33, Tryd.ntmps33
  go_wp2
  go_ret
  exact ⟨rfl, k1, k2, k3, b2⟩

theorem index_size : (Tryd.prog.info? 54).map (·.size) = some 2 := by kernel_rfl
set_option maxRecDepth 100000 in
set_option maxHeartbeats 3200000 in
theorem mfrom_in (n l base q p g cap : Nat) (A : Option Addr) (M : List (List UInt8 × Int)) (fs : List Ft) (b : Int) (fr : Bool) (w0 : World) (h : MemAt w0 base q p g A cap M fs b fr) (hM : M.length ≤ 100000) (k : ByteArray) (va : Nat) (hva : va < 4294967296) (hk : k.size ≤ 10000) (B1 B2 B3 B : Nat)
    (J Jx : List Ft → World → Prop) (W : World) (hBW : B ≤ W.heap.size) (hbW : Below w0.heap.size w0 W)
    (h1 : Boxed W B1 30 (.pointer (some ⟨q, 0, none⟩))) (h2 : Boxed W B2 9 (.string k)) (h3 : Boxed W B3 23 (.int .u32 (va : Int)))
    (hJ : OwnFrom W.heap.size J) (hJx : OwnFrom W.heap.size Jx)
    (hY : ∀ pre x vs W1, J pre W1 → pre ++ [x] <+: placed fs (fromM M (seekL k va)) → EncF x vs W1 → YieldAt Fence.wide (n - 1) Tryd.prog l vs W1 fun e W' => (e = .returned (.bool true) ∧ J (pre ++ [x]) W' ∧ KpF w0.heap.size B W1 W') ∨ (e = .returned (.bool false) ∧ Jx (pre ++ [x]) W' ∧ KpF w0.heap.size B W1 W'))
    (h0 : J [] W) :
    CallsIn Fence.wide n Tryd.prog 50 #[.func (.yield l) #[] #[], .pointer (some ⟨B1, 0, none⟩), .pointer (some ⟨B2, 0, none⟩), .pointer (some ⟨B3, 0, none⟩)] W fun e W' =>
      (∃ v, e = .returned v) ∧ (J (placed fs (fromM M (seekL k va))) W' ∨ (∃ pre, pre <+: placed fs (fromM M (seekL k va)) ∧ Jx pre W')) := by
  obtain ⟨nf, hnf⟩ : ∃ nf, fs.length = nf := ⟨_, rfl⟩
  have hMW := h.below hbW
  have ht := mthere_yes hMW
  have hc := hMW.box.cell
  rw [hnf] at hc
  have hpl := h.sk
  have hfs := h.facts
  have hix := h.ix
  obtain ⟨N, L, hh, scap, I, hSk, htl⟩ := hpl
  have hl := told_len I
  rw [htl] at hl
  have hrest : toldL N (restL N L (seekL k va)) = fromM M (seekL k va) := by rw [toldL_rest, htl]
  have hseek := fun W1 => seek_any W1 k va hva (by omega)
  have hsl : (seekL k va).length ≤ 100000 := by
    unfold seekL
    rw [List.length_append, be_length]
    have := esc_length k.data.toList
    have e : k.data.toList.length = k.size := rfl
    omega
  have hfr := fun W1 (A1 : Option Addr) (m : Nat) (hm : (seekL k va).length = m) (hb : Bs W1 A1 (seekL k va)) => from_any W1 (some ⟨p, 0, none⟩) (seekL k va) A1 m m hm (by omega) hb
  have htd := fun W1 (C : Nat) => told_any W1 ⟨p, 0, none⟩ A nf cap C
  have SJ : ∀ X Y, Below w0.heap.size w0 X ∧ Boxed X B1 30 (.pointer (some ⟨q, 0, none⟩)) ∧ Boxed X B2 9 (.string k) ∧ Boxed X B3 23 (.int .u32 (va : Int)) → KpF w0.heap.size B X Y →
      Below w0.heap.size w0 Y ∧ Boxed Y B1 30 (.pointer (some ⟨q, 0, none⟩)) ∧ Boxed Y B2 9 (.string k) ∧ Boxed Y B3 23 (.int .u32 (va : Int)) := fun X Y hX hkp =>
    ⟨hX.1.trans hkp.low, hkp.typ _ _ _ _ hX.2.1 (by decide) (by decide), hkp.typ _ _ _ _ hX.2.2.1 (by decide) (by decide), hkp.typ _ _ _ _ hX.2.2.2 (by decide) (by decide)⟩
  obtain ⟨S, hSd⟩ : ∃ S : World → Prop, S = fun X => Below w0.heap.size w0 X ∧ Boxed X B1 30 (.pointer (some ⟨q, 0, none⟩)) ∧ Boxed X B2 9 (.string k) ∧ Boxed X B3 23 (.int .u32 (va : Int)) := ⟨_, rfl⟩
  have SO : OwnFrom W.heap.size (fun (_ : List Ft) X => S X) := by
    subst hSd
    exact fun s X Y row hs hg hr => ⟨ownFrom_below (β := Unit) (Nat.le_refl _) hbW.size () X Y row hs.1 hg hr, blk_own (β := Unit) _ _ _ _ () X Y row hs.2.1 hg hr, blk_own (β := Unit) _ _ _ _ () X Y row hs.2.2.1 hg hr, blk_own (β := Unit) _ _ _ _ () X Y row hs.2.2.2 hg hr⟩
  have hSb : ∀ X Y, S X → Below X.heap.size X Y → S Y := fun X Y hX hXY => by
    subst hSd
    exact ⟨hX.1.trans (hXY.mono hX.1.size), (hXY.block _ hX.2.1.lt).trans hX.2.1, (hXY.block _ hX.2.2.1.lt).trans hX.2.2.1, (hXY.block _ hX.2.2.2.lt).trans hX.2.2.2⟩
  have hcl := fun (W1 : World) (bW : Below W.heap.size W W1) (hS1 : S W1) (A1 : Option Addr) (m c C By Bx : Nat) (hm : (seekL k va).length = m) (hb : Bs W1 A1 (seekL k va)) (hC : Boxed W1 C 51 (.pointer (some ⟨p, 0, none⟩))) (hD : Boxed W1 (C + 1) 57 (.slice A1 m c))
      (hBy : Boxed W1 By 68 (.func (.func 56) #[] #[.pointer (some ⟨C, 0, none⟩), .pointer (some ⟨C + 1, 0, none⟩)])) (hBx : Blk W1 Bx 54 #[.pointer (some ⟨p, 0, none⟩), .slice A nf cap]) =>
    callsIn_wide.1 (told_in n l base p g scap N L hh I _ hl (by omega) (seekL k va) A1 m c hm C w0 hSk A nf cap fs hfs hnf (by rw [hrest]; exact fun x hx => by have := hix x (fromM_mem hx); rwa [hnf] at this) By Bx B
      (fun pre X => J pre X ∧ S X) (fun pre X => Jx pre X ∧ S X) W1 (Nat.le_trans hBW bW.size) (hbW.trans (bW.mono hbW.size)) hb hC hD hBy hBx
      (OwnFrom.mono (OwnFrom.and hJ SO) bW.size) (OwnFrom.mono (OwnFrom.and hJx SO) bW.size)
      (fun pre x vs W2 hj hp he => (hY pre x vs W2 hj.1 (by rw [hrest] at hp; exact hp) he).mono (fun e W' h5 => by
        subst hSd
        rcases h5 with ⟨e1, e2, e3⟩ | ⟨e1, e2, e3⟩
        · exact .inl ⟨e1, ⟨e2, SJ _ _ hj.2 e3⟩, e3⟩
        · exact .inr ⟨e1, ⟨e2, SJ _ _ hj.2 e3⟩, e3⟩))
      ⟨hJ _ _ _ none h0 (grown_below bW) (fun r e => by cases e), hS1⟩)
  rw [hrest] at hcl
  have hSW : S W.drew := by
    subst hSd
    exact ⟨hbW.drew, h1, h2, h3⟩
  have hB1 : ∀ X, S X → X.cell? ⟨B1, 0, none⟩ = some (Value.pointer (some ⟨q, 0, none⟩)) ∧ X.cell? ⟨B2, 0, none⟩ = some (Value.string k) ∧ X.cell? ⟨B3, 0, none⟩ = some (Value.int .u32 (va : Int)) := fun X hX => by
    subst hSd
    exact ⟨hX.2.1.cell, hX.2.2.1.cell, hX.2.2.2.cell⟩
  have hBq : ∀ X, S X → ∀ i, X.cell? ⟨q, i, none⟩ = #[Value.pointer (some ⟨p, 0, none⟩), .slice A nf cap, .int .i64 b, .bool fr][i]? := fun X hX => by
    subst hSd
    have := (h.below hX.1).box.cell
    rwa [hnf] at this
  have hS0 : S W.drew := hSW
  have hld : ∀ X, S X → X.rangeAt q 0 [.pointer (some ⟨p, 0, none⟩), .slice A nf cap] := fun X hX j v hv => by
    rw [Nat.zero_add, hBq X hX j]
    rcases j with _ | _ | j
    · simpa using hv
    · simpa using hv
    · simp at hv
  have hu := Tryd.underlying54
  have hi := index_size
  have hfol : Tryd.prog.follows .mixedOrders = true := by kernel_rfl
  have hcB : W.cell? ⟨B1, 0, none⟩ = some (Value.pointer (some ⟨q, 0, none⟩)) := h1.cell
  have bWd : Below W.heap.size W W.drew := (Below.refl _ W).drew
  obtain ⟨xs, hxs⟩ : ∃ xs, placed fs (fromM M (seekL k va)) = xs := ⟨_, rfl⟩
  have hxs2 : List.map (fun x => fs.getD x.2.toNat Ft.zero) (fromM M (seekL k va)) = xs := hxs
  rw [hxs2] at hcl
  rw [hxs]
  replace hcl := Lib.hid hcl
  replace hB1 := Lib.hid hB1
  replace hBq := Lib.hid hBq
  replace hld := Lib.hid hld
  replace hseek := Lib.hid hseek
  replace hfr := Lib.hid hfr
  replace htd := Lib.hid htd
  replace hSb := Lib.hid hSb
  replace hxs := Lib.hid hxs
  clear hxs2 hl htl hix hrest
  refine callsIn_wide.2 ?_
  go_enter Tryd.func50, Tryd.ntmps50
  go_wp2_with fail
  refine ht.mono ?_
  clear ht
  rintro _ _ ⟨rfl, rfl⟩
  go_wp2_with fail
  refine wp_region_held (S := S) hfol ?_
  refine wpAnyH_take (i := 0) (v := .pointer (some ⟨q, 0, none⟩)) rfl (by kernel_rfl) (by kernel_rfl) (by kernel_rfl) (fun _ _ _ h => h) (.inl ⟨by rfl, fun W hW => by have hx1 := (hB1.out W hW).1; have hx2 := (hB1.out W hW).2.1; have hx3 := (hB1.out W hW).2.2; go_simp⟩) hS0 ?_
  try dsimp only [Act.put]
  try simp only [List.setIfInBounds_toArray, List.set_cons_zero, List.set_cons_succ]
  refine wpAnyH_take (i := 1) (v := .pointer (some ⟨q, 0, none⟩)) rfl (by kernel_rfl) (by kernel_rfl) (by kernel_rfl) (fun _ _ _ h => h) (.inl ⟨by rfl, fun W hW => by go_simp⟩) hS0 ?_
  try dsimp only [Act.put]
  try simp only [List.setIfInBounds_toArray, List.set_cons_zero, List.set_cons_succ]
  refine wpAnyH_take (i := 2) (v := .pointer (some ⟨q, 0, none⟩)) rfl (by kernel_rfl) (by kernel_rfl) (by kernel_rfl) (fun _ _ _ h => h) (.inl ⟨by rfl, fun W hW => by go_simp⟩) hS0 ?_
  try dsimp only [Act.put]
  try simp only [List.setIfInBounds_toArray, List.set_cons_zero, List.set_cons_succ]
  refine wpAnyH_take (i := 3) (v := .agg #[.pointer (some ⟨p, 0, none⟩), .slice A nf cap]) rfl (by kernel_rfl) (by kernel_rfl) (by kernel_rfl) (fun _ _ _ h => h) (yieldsIf_load_mid (by rfl) 54 (.tmp 9) rfl q 0 rfl [.pointer (some ⟨p, 0, none⟩), .slice A nf cap] _ hld.out hu rfl hi) hS0 ?_
  try dsimp only [Act.put]
  try simp only [List.setIfInBounds_toArray, List.set_cons_zero, List.set_cons_succ]
  refine wpAnyH_take (i := 4) (v := .pointer (some ⟨q, 0, none⟩)) rfl (by kernel_rfl) (by kernel_rfl) (by kernel_rfl) (fun _ _ _ h => h) (.inl ⟨by rfl, fun W hW => by have hx1 := (hB1.out W hW).1; have hx2 := (hB1.out W hW).2.1; have hx3 := (hB1.out W hW).2.2; go_simp⟩) hS0 ?_
  try dsimp only [Act.put]
  try simp only [List.setIfInBounds_toArray, List.set_cons_zero, List.set_cons_succ]
  refine wpAnyH_take (i := 5) (v := .pointer (some ⟨q, 0, none⟩)) rfl (by kernel_rfl) (by kernel_rfl) (by kernel_rfl) (fun _ _ _ h => h) (.inl ⟨by rfl, fun W hW => by go_simp⟩) hS0 ?_
  try dsimp only [Act.put]
  try simp only [List.setIfInBounds_toArray, List.set_cons_zero, List.set_cons_succ]
  refine wpAnyH_take (i := 6) (v := .pointer (some ⟨q, 0, none⟩)) rfl (by kernel_rfl) (by kernel_rfl) (by kernel_rfl) (fun _ _ _ h => h) (.inl ⟨by rfl, fun W hW => by go_simp⟩) hS0 ?_
  try dsimp only [Act.put]
  try simp only [List.setIfInBounds_toArray, List.set_cons_zero, List.set_cons_succ]
  refine wpAnyH_take (i := 7) (v := .pointer (some ⟨q, 0, none⟩)) rfl (by kernel_rfl) (by kernel_rfl) (by kernel_rfl) (fun _ _ _ h => h) (.inl ⟨by rfl, fun W hW => by go_simp⟩) hS0 ?_
  try dsimp only [Act.put]
  try simp only [List.setIfInBounds_toArray, List.set_cons_zero, List.set_cons_succ]
  refine wpAnyH_take (i := 8) (v := .pointer (some ⟨p, 0, none⟩)) rfl (by kernel_rfl) (by kernel_rfl) (by kernel_rfl) (fun _ _ _ h => h) (.inl ⟨by rfl, fun W hW => by have hx1 := hBq.out W hW 0; go_simp⟩) hS0 ?_
  try dsimp only [Act.put]
  try simp only [List.setIfInBounds_toArray, List.set_cons_zero, List.set_cons_succ]
  refine wpAnyH_take (i := 9) (v := .string k) rfl (by kernel_rfl) (by kernel_rfl) (by kernel_rfl) (fun _ _ _ h => h) (.inl ⟨by rfl, fun W hW => by have hx1 := (hB1.out W hW).1; have hx2 := (hB1.out W hW).2.1; have hx3 := (hB1.out W hW).2.2; go_simp⟩) hS0 ?_
  try dsimp only [Act.put]
  try simp only [List.setIfInBounds_toArray, List.set_cons_zero, List.set_cons_succ]
  refine wpAnyH_take (i := 10) (v := .int .u32 (va : Int)) rfl (by kernel_rfl) (by kernel_rfl) (by kernel_rfl) (fun _ _ _ h => h) (.inl ⟨by rfl, fun W hW => by have hx1 := (hB1.out W hW).1; have hx2 := (hB1.out W hW).2.1; have hx3 := (hB1.out W hW).2.2; go_simp⟩) hS0 ?_
  try dsimp only [Act.put]
  try simp only [List.setIfInBounds_toArray, List.set_cons_zero, List.set_cons_succ]
  refine wpAnyH_take (i := 14) (v := .func (.yield l) #[] #[]) rfl (by kernel_rfl) (by kernel_rfl) (by kernel_rfl) (fun _ _ _ h => h) (.inl ⟨by rfl, fun W hW => by go_simp⟩) hS0 ?_
  try dsimp only [Act.put]
  try simp only [List.setIfInBounds_toArray, List.set_cons_zero, List.set_cons_succ]
  refine wpAnyH_ready (rs := [11]) (by kernel_rfl) (by simp) (AllReadyH.cons rfl (fun K' hK => ?_) AllReadyH.nil)
  go_simp
  go_at_call 51
  refine (hseek.out _).mono ?_
  rintro _ w3 ⟨sg, sn, rfl, hsn, hsg, hsb, b3⟩
  replace hsn := Lib.hid hsn
  refine hK.out _ _ (hSb.out _ _ hS0 b3) (fun hS1 => ?_)
  clear hK K'
  try dsimp only [Act.put]
  try simp only [List.setIfInBounds_toArray, List.set_cons_zero, List.set_cons_succ]
  replace b3 := bWd.trans (b3.mono bWd.size)
  refine wpAnyH_ready (rs := [12]) (by kernel_rfl) (by simp) (AllReadyH.cons rfl (fun K' hK => ?_) AllReadyH.nil)
  go_simp
  go_at_call 49
  refine (hfr.out w3 _ _ hsn.out.symm hsb).mono ?_
  rintro _ w4 ⟨A4, c4, rfl, hC4, hD4, hb4, b4⟩
  replace hS1 := hSb.out _ _ hS1 b4
  replace b3 := b3.trans (b4.mono b3.size)
  generalize w3.heap.size = C4 at *
  refine hK.out _ _ hS1 (fun _ => ?_)
  clear hK K'
  try dsimp only [Act.put]
  try simp only [List.setIfInBounds_toArray, List.set_cons_zero, List.set_cons_succ]
  refine wpAnyH_ready (rs := [13]) (by kernel_rfl) (by simp) (AllReadyH.cons rfl (fun K' hK => ?_) AllReadyH.nil)
  go_simp
  go_at_call 30
  refine (htd.out w4 C4).mono ?_
  rintro _ w5 ⟨By, Bx, rfl, hBy, hBx, b5⟩
  replace hS1 := hSb.out _ _ hS1 b5
  replace b3 := b3.trans (b5.mono b3.size)
  refine hK.out _ _ hS1 (fun _ => ?_)
  clear hK K'
  try dsimp only [Act.put]
  try simp only [List.setIfInBounds_toArray, List.set_cons_zero, List.set_cons_succ]
  refine wpAnyH_ready (rs := [15]) (by kernel_rfl) (by simp) (AllReadyH.cons rfl (fun K' hK => ?_) AllReadyH.nil)
  go_simp
  go_at_call 48
  refine (hcl.out w5 b3 hS1 A4 _ c4 C4 By Bx rfl (hb4.below b5) ((b5.block _ hC4.lt).trans hC4) ((b5.block _ hD4.lt).trans (by rw [hsn.out] at hD4; exact hD4)) hBy hBx).mono ?_
  rintro e w6 ⟨⟨v, rfl⟩, hp⟩
  have hS6 : S w6 := by rcases hp with ⟨_, hp⟩ | ⟨pre, _, _, hp⟩ <;> exact hp
  refine hK.out _ _ hS6 (fun _ => ?_)
  clear hK K'
  try dsimp only [Act.put]
  try simp only [List.setIfInBounds_toArray, List.set_cons_zero, List.set_cons_succ]
  refine wpAnyH_done (by kernel_rfl) ?_ _
  go_wp2
  go_end0
  refine ⟨⟨_, rfl⟩, ?_⟩
  rcases hp with ⟨hp, _⟩ | ⟨pre, h7, hp, _⟩
  · exact .inl hp
  · exact .inr ⟨pre, h7, hp⟩
end Go.Proofs.YtdifdbkbpeanhaaDoor
