/- Mems' From as a sequence; the walk of Facts. -/
import Derived.Test.YtdifdbkbpeanhaaDoorMemFrom
set_option linter.unusedSimpArgs false
set_option linter.unusedVariables false
namespace Go.Proofs.YtdifdbkbpeanhaaDoor
open Go Go.RowKit Go.Shelf Herb
theorem mfrom_seq (n base q p g cap : Nat) (A : Option Addr) (M : List (List UInt8 × Int)) (fs : List Ft) (b : Int) (fr : Bool) (w0 : World) (h : MemAt w0 base q p g A cap M fs b fr) (hM : M.length ≤ 100000) (k : ByteArray) (va : Nat) (hva : va < 4294967296) (hk : k.size ≤ 10000) (B1 B2 B3 : Nat)
    (w : World) (hbW : Below w0.heap.size w0 w) (h1 : Boxed w B1 30 (.pointer (some ⟨q, 0, none⟩))) (h2 : Boxed w B2 9 (.string k)) (h3 : Boxed w B3 23 (.int .u32 (va : Int))) :
    SeqF Fence.wide n Tryd.prog 50 #[.pointer (some ⟨B1, 0, none⟩), .pointer (some ⟨B2, 0, none⟩), .pointer (some ⟨B3, 0, none⟩)] EncF (fun l => KpF w0.heap.size (l + 1)) (placed fs (fromM M (seekL k va))) w :=
  fun l J Jx W hl hW hJ hJx hY h0 => mfrom_in n l base q p g cap A M fs b fr w0 h hM k va hva hk B1 B2 B3 (l + 1) J Jx W hl (hbW.trans (hW.mono hbW.size)) ((hW.block _ h1.lt).trans h1) ((hW.block _ h2.lt).trans h2) ((hW.block _ h3.lt).trans h3) hJ hJx hY h0
theorem sall_any (w : World) (q : Option Addr) :
    Calls Tryd.prog 31 #[.pointer q] w fun e w' => ∃ A' c', e = .returned (.func (.func 56) #[] #[.pointer (some ⟨w.heap.size, 0, none⟩), .pointer (some ⟨w.heap.size + 1, 0, none⟩)]) ∧
      Boxed w' w.heap.size 51 (.pointer q) ∧ Boxed w' (w.heap.size + 1) 57 (.slice A' 0 c') ∧ Bs w' A' [] ∧ Below w.heap.size w w' := by
  have hf := from_any w q [] none 0 0 rfl (by omega) (Bs.nil_ w none)
  go_enter Tryd.func31, Tryd.ntmps31
  go_wp2_with fail
  refine hf.mono ?_
  clear hf
  rintro _ w1 ⟨A', c', rfl, h1, h2, h3, h4⟩
  go_wp2
  go_ret
  exact ⟨A', c', rfl, h1, h2, h3, h4⟩
theorem clip_ft (w : World) (A : Option Addr) (n c : Nat) (hnc : n ≤ c) (hc : c ≤ maxLen) :
    Calls Tryd.prog 28 #[.slice A n c] w fun e w' => e = .returned (.slice A n n) ∧ w = w' := by
  unfold maxLen at hc
  go_enter Tryd.func28, Tryd.ntmps28
  go_wp2
  go_ret
  exact ⟨rfl, rfl⟩
set_option maxRecDepth 100000 in
set_option maxHeartbeats 3200000 in
theorem mfacts_any (base q p g cap : Nat) (A : Option Addr) (M : List (List UInt8 × Int)) (fs : List Ft) (b : Int) (fr : Bool) (w : World) (h : MemAt w base q p g A cap M fs b fr) (hM : M.length ≤ 100000) :
    Calls Tryd.prog 16 #[.pointer (some ⟨q, 0, none⟩)] w fun e w' => ∃ A' n c, e = .returned (.slice A' n n) ∧ M.length = n ∧ w'.ownsRow w.heap.size 27 6 (.slice A' n c) n (ftC (placed fs M)) ∧ Below w.heap.size w w' := by
  obtain ⟨nf, hnf⟩ : ∃ nf, fs.length = nf := ⟨_, rfl⟩
  have ht := mthere_yes h
  have hc := h.box.cell
  have hpl := h.sk
  have hfs := h.facts
  have hix := h.ix
  have hlt := h.sk.lt
  obtain ⟨N, L, hh, scap, I, hSk, htl⟩ := hpl
  have hl := told_len I
  rw [htl] at hl
  have hrest : toldL N (restL N L []) = M := by rw [toldL_rest, htl, fromM_nil]
  rw [hnf] at hc
  have hBq : ∀ X, Below w.heap.size w X → ∀ i, X.cell? ⟨q, i, none⟩ = #[Value.pointer (some ⟨p, 0, none⟩), .slice A nf cap, .int .i64 b, .bool fr][i]? := fun X hX => by
    have := (h.below hX).box.cell
    rwa [hnf] at this
  have hcl := fun (W1 : World) (bW : Below w.heap.size w W1) (A1 : Option Addr) (m c C By Bx : Nat) (hm : ([] : List UInt8).length = m) (hb : Bs W1 A1 []) (hC : Boxed W1 C 51 (.pointer (some ⟨p, 0, none⟩))) (hD : Boxed W1 (C + 1) 57 (.slice A1 m c))
      (hBy : Boxed W1 By 68 (.func (.func 56) #[] #[.pointer (some ⟨C, 0, none⟩), .pointer (some ⟨C + 1, 0, none⟩)])) (hBx : Blk W1 Bx 54 #[.pointer (some ⟨p, 0, none⟩), .slice A nf cap]) =>
    collect_any W1 48 #[.pointer (some ⟨By, 0, none⟩), .pointer (some ⟨Bx, 0, none⟩)] (enters_of Tryd.func48 (by kernel_rfl) rfl) _ (by rw [hrest, List.length_map]; omega)
      (told_seq 8 base p g scap N L hh I _ hl (by omega) [] A1 m c hm C W1 (hSk.below bW) A nf cap fs (hfs.below bW) hnf (by rw [hrest]; exact fun x hx => by have := hix x hx; rwa [hnf] at this) By Bx W1 (Below.refl _ _) hb hC hD hBy hBx)
  rw [hrest] at hcl
  obtain ⟨xs, hxs⟩ : ∃ xs, placed fs M = xs := ⟨_, rfl⟩
  have hxs2 : List.map (fun x => fs.getD x.2.toNat Ft.zero) M = xs := hxs
  have hxl : xs.length = M.length := by rw [← hxs2, List.length_map]
  rw [hxs2] at hcl
  rw [hxs]
  have hld : ∀ X, Below w.heap.size w X → X.rangeAt q 0 [.pointer (some ⟨p, 0, none⟩), .slice A nf cap] := fun X hX j v hv => by
    rw [Nat.zero_add, hBq X hX j]
    rcases j with _ | _ | j
    · simpa using hv
    · simpa using hv
    · simp at hv
  have hu := Tryd.underlying54
  have hi := index_size
  have hfol : Tryd.prog.follows .mixedOrders = true := by kernel_rfl
  have htd := fun W1 (C : Nat) => told_any W1 ⟨p, 0, none⟩ A nf cap C
  have hS0 : Below w.heap.size w w.drew := (Below.refl _ w).drew
  replace hcl := Lib.hid hcl
  replace hBq := Lib.hid hBq
  replace hld := Lib.hid hld
  replace htd := Lib.hid htd
  replace hxs := Lib.hid hxs
  replace hxl := Lib.hid hxl
  clear hxs2 hl htl hix hrest hfs hlt
  go_enter Tryd.func16, Tryd.ntmps16
  go_wp2_with fail
  refine ht.mono ?_
  clear ht
  rintro _ _ ⟨rfl, rfl⟩
  go_wp2_with fail
  refine wp_region_held (S := fun X => Below w.heap.size w X) hfol ?_
  refine wpAnyH_take (i := 0) (v := .pointer (some ⟨q, 0, none⟩)) rfl (by kernel_rfl) (by kernel_rfl) (by kernel_rfl) (fun _ _ _ h => h) (.inl ⟨by rfl, fun W hW => by go_simp⟩) hS0 ?_
  try dsimp only [Act.put]
  try simp only [List.setIfInBounds_toArray, List.set_cons_zero, List.set_cons_succ]
  refine wpAnyH_take (i := 1) (v := .pointer (some ⟨q, 0, none⟩)) rfl (by kernel_rfl) (by kernel_rfl) (by kernel_rfl) (fun _ _ _ h => h) (.inl ⟨by rfl, fun W hW => by go_simp⟩) hS0 ?_
  try dsimp only [Act.put]
  try simp only [List.setIfInBounds_toArray, List.set_cons_zero, List.set_cons_succ]
  refine wpAnyH_take (i := 2) (v := .pointer (some ⟨q, 0, none⟩)) rfl (by kernel_rfl) (by kernel_rfl) (by kernel_rfl) (fun _ _ _ h => h) (.inl ⟨by rfl, fun W hW => by go_simp⟩) hS0 ?_
  try dsimp only [Act.put]
  try simp only [List.setIfInBounds_toArray, List.set_cons_zero, List.set_cons_succ]
  refine wpAnyH_take (i := 3) (v := .agg #[.pointer (some ⟨p, 0, none⟩), .slice A nf cap]) rfl (by kernel_rfl) (by kernel_rfl) (by kernel_rfl) (fun _ _ _ h => h) (yieldsIf_load_mid (by rfl) 54 (.tmp 8) rfl q 0 rfl [.pointer (some ⟨p, 0, none⟩), .slice A nf cap] _ hld.out hu rfl hi) hS0 ?_
  try dsimp only [Act.put]
  try simp only [List.setIfInBounds_toArray, List.set_cons_zero, List.set_cons_succ]
  refine wpAnyH_take (i := 4) (v := .pointer (some ⟨q, 0, none⟩)) rfl (by kernel_rfl) (by kernel_rfl) (by kernel_rfl) (fun _ _ _ h => h) (.inl ⟨by rfl, fun W hW => by go_simp⟩) hS0 ?_
  try dsimp only [Act.put]
  try simp only [List.setIfInBounds_toArray, List.set_cons_zero, List.set_cons_succ]
  refine wpAnyH_take (i := 5) (v := .pointer (some ⟨q, 0, none⟩)) rfl (by kernel_rfl) (by kernel_rfl) (by kernel_rfl) (fun _ _ _ h => h) (.inl ⟨by rfl, fun W hW => by go_simp⟩) hS0 ?_
  try dsimp only [Act.put]
  try simp only [List.setIfInBounds_toArray, List.set_cons_zero, List.set_cons_succ]
  refine wpAnyH_take (i := 6) (v := .pointer (some ⟨q, 0, none⟩)) rfl (by kernel_rfl) (by kernel_rfl) (by kernel_rfl) (fun _ _ _ h => h) (.inl ⟨by rfl, fun W hW => by go_simp⟩) hS0 ?_
  try dsimp only [Act.put]
  try simp only [List.setIfInBounds_toArray, List.set_cons_zero, List.set_cons_succ]
  refine wpAnyH_take (i := 7) (v := .pointer (some ⟨q, 0, none⟩)) rfl (by kernel_rfl) (by kernel_rfl) (by kernel_rfl) (fun _ _ _ h => h) (.inl ⟨by rfl, fun W hW => by go_simp⟩) hS0 ?_
  try dsimp only [Act.put]
  try simp only [List.setIfInBounds_toArray, List.set_cons_zero, List.set_cons_succ]
  refine wpAnyH_take (i := 8) (v := .pointer (some ⟨p, 0, none⟩)) rfl (by kernel_rfl) (by kernel_rfl) (by kernel_rfl) (fun _ _ _ h => h) (.inl ⟨by rfl, fun W hW => by have hx1 := hBq.out W hW 0; go_simp⟩) hS0 ?_
  try dsimp only [Act.put]
  try simp only [List.setIfInBounds_toArray, List.set_cons_zero, List.set_cons_succ]
  refine wpAnyH_ready (rs := [9]) (by kernel_rfl) (by simp) (AllReadyH.cons rfl (fun K' hK => ?_) AllReadyH.nil)
  go_simp
  go_at_call 31
  refine (sall_any _ (some ⟨p, 0, none⟩)).mono ?_
  rintro _ w4 ⟨A4, c4, rfl, hC4, hD4, hb4, b4⟩
  replace b4 := hS0.trans (b4.mono hS0.size)
  rw [show w.drew.heap.size = w.heap.size from rfl] at hC4 hD4 ⊢
  obtain ⟨C4, hC⟩ : ∃ C4, w.heap.size = C4 := ⟨_, rfl⟩
  replace hC := Lib.hid hC
  refine hK.out _ _ b4 (fun _ => ?_)
  clear hK K'
  try dsimp only [Act.put]
  try simp only [List.setIfInBounds_toArray, List.set_cons_zero, List.set_cons_succ]
  refine wpAnyH_ready (rs := [10]) (by kernel_rfl) (by simp) (AllReadyH.cons rfl (fun K' hK => ?_) AllReadyH.nil)
  go_simp
  go_at_call 30
  refine (htd.out w4 w.heap.size).mono ?_
  rintro _ w5 ⟨By, Bx, rfl, hBy, hBx, b5⟩
  have b15 := b4.trans (b5.mono b4.size)
  refine hK.out _ _ b15 (fun _ => ?_)
  clear hK K'
  try dsimp only [Act.put]
  try simp only [List.setIfInBounds_toArray, List.set_cons_zero, List.set_cons_succ]
  refine wpAnyH_ready (rs := [11]) (by kernel_rfl) (by simp) (AllReadyH.cons rfl (fun K' hK => ?_) AllReadyH.nil)
  go_simp
  go_at_call 29
  refine (hcl.out w5 b15 A4 0 c4 w.heap.size By Bx rfl (hb4.below b5) ((b5.block _ hC4.lt).trans hC4) ((b5.block _ hD4.lt).trans hD4) hBy hBx).mono ?_
  rintro _ w6 ⟨v, rfl, hrow, b6⟩
  have hrow' := (hrow.mono b15.size)
  have b16 := b15.trans (b6.mono b15.size)
  obtain ⟨A6, c6, rfl⟩ : ∃ A c, v = .slice A xs.length c := by
    rcases hrow.2 with ⟨rfl, h0⟩ | ⟨g', cap', cur, rfl, _⟩
    · exact ⟨none, 0, by rw [h0]⟩
    · exact ⟨_, _, rfl⟩
  have hcap := own_cap hrow
  refine hK.out _ _ b16 (fun _ => ?_)
  clear hK K'
  try dsimp only [Act.put]
  try simp only [List.setIfInBounds_toArray, List.set_cons_zero, List.set_cons_succ]
  refine wpAnyH_ready (rs := [12]) (by kernel_rfl) (by simp) (AllReadyH.cons rfl (fun K' hK => ?_) AllReadyH.nil)
  go_simp
  go_at_call 28
  refine (clip_ft w6 A6 xs.length c6 hcap.1 hcap.2).mono ?_
  rintro _ _ ⟨rfl, rfl⟩
  refine hK.out _ _ b16 (fun _ => ?_)
  clear hK K'
  try dsimp only [Act.put]
  try simp only [List.setIfInBounds_toArray, List.set_cons_zero, List.set_cons_succ]
  refine wpAnyH_ready (rs := [13]) (by kernel_rfl) (by simp) (AllReadyH.cons rfl (fun K' hK => ?_) AllReadyH.nil)
  go_simp
  refine hK.out _ _ b16 (fun _ => ?_)
  clear hK K'
  try dsimp only [Act.put]
  try simp only [List.setIfInBounds_toArray, List.set_cons_zero, List.set_cons_succ]
  refine wpAnyH_done (by kernel_rfl) ?_ _
  go_wp2
  go_ret
  exact ⟨A6, xs.length, c6, rfl, hxl.out.symm, hrow', b16⟩
end Go.Proofs.YtdifdbkbpeanhaaDoor
