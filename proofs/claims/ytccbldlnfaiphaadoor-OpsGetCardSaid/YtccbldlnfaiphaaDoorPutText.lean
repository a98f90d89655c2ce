/- The walk of varints.PutText; the append of a string's bytes onto a slice without room behind. -/
import Derived.Test.YtccbldlnfaiphaaDoorPut
import Derived.Lib.AppendStr
set_option linter.unusedSimpArgs false
set_option linter.unusedVariables false
namespace Herb
open Go Go.RowKit
theorem run_app_str_clip {P : Program} (w : World) {base : Nat} {t u ty e : TypeId} (ht : P.underlying t = some (.slice e)) (hu : P.underlying u = some .string)
    (hinfo : (P.info? e).map (fun i => (i.zero, i.size, i.bytes)) = some (some (.int .u8 0), 1, 1)) {g k cap : Nat} {xs : List Value} (hown : w.ownsRow base e 1 (.slice (some ⟨g, 0, none⟩) k cap) k xs) (s : ByteArray)
    (hbytes : k + s.size ≤ 140737488355328) (hbase : base ≤ w.heap.size) :
    ∃ g' c' cap' w', (Builtin.append_ #[t, u] ty #[.slice (some ⟨g, 0, none⟩) k k, .string s]).run P w = .ok (.slice (some ⟨g', 0, none⟩) (k + s.size) c') w' ∧ k + s.size ≤ c' ∧
      w'.ownsRow base e 1 (.slice (some ⟨g', 0, none⟩) (k + s.size) cap') (k + s.size) (xs ++ Lib.strCells s) ∧ w.grownBy w' (some g) := by
  obtain ⟨i, hi, hz, hs, hb⟩ := info_parts hinfo
  have hxl : xs.length = k := by simpa using hown.1
  have hlen : (xs ++ Lib.strCells s).length = (k + s.size) * 1 := by rw [List.length_append, hxl, Lib.strCells_length, Nat.mul_one]
  have hcells : ∀ j u, xs[j]? = some u → w.cell? ((⟨g, 0, none⟩ : Addr).add j) = some u := hown.cells (g := g) rfl
  rcases hown.2 with ⟨h, _⟩ | ⟨g1, cap1, cur, hv, hbg, hg, hnc, hcm, hcs, htake⟩
  · cases h
  · cases hv
    by_cases hm : s.size = 0
    · have hcs' : cur.size = cap := by simpa using hcs
      have hr := Lib.run_append_room_string (P := P) w t u ty e i ht hu hi hs g k k cur hg s (by omega) (by omega)
      refine ⟨g, k, cap, _, hr, by omega, ⟨hlen, .inr ⟨g, cap, _, rfl, hbg, setRow_heap w g cur _ e _ hg, by omega, hcm, ?_, ?_⟩⟩, ⟨rfl, rfl, rfl, by simp, fun k _ hk => setRow_other w g k _ (fun e => hk (by simp [e]))⟩⟩
      · simp only [List.size_toArray, List.length_append, List.length_take, List.length_drop, Array.length_toList, Lib.strCells_length]
        omega
      · have ht' : cur.toList.take k = xs := by simpa using htake
        rw [ht', ← hlen]
        exact List.take_left
    · have hr := Lib.run_append_grow_string (P := P) w t u ty e i (.int .u8 0) ht hu hi hz ⟨g, 0, none⟩ k k xs (by rw [hs]; simpa using hxl) hcells s (by omega) (by omega) (by rw [hb]; exact growslice_fits (by omega) (by omega))
      have hge := grownCap_ge w (k + s.size) k e
      have hcm : grownCap w (k + s.size) k e ≤ maxLen := grownCap_le_maxLen w (k + s.size) k e (by unfold maxLen; omega)
      refine ⟨w.heap.size, _, _, _, hr, hge, ⟨hlen, .inr ⟨w.heap.size, _, _, rfl, hbase, heap_alloc_new w.drew _, hge, hcm, ?_, ?_⟩⟩, ⟨rfl, rfl, rfl, by simp, fun j hj _ => heap_alloc_old w.drew _ hj⟩⟩
      · have hz1 : (Value.int IntKind.u8 0).cells.size = 1 := rfl
        simp only [Array.size_append, List.size_toArray, size_zeroCells, hz1, hxl, Lib.strCells_length]
        omega
      · simp only [Array.toList_append, List.append_assoc]
        rw [← List.append_assoc, ← hlen]
        exact List.take_left

theorem wpList_app_str_clip {P : Program} (w : World) {ops : Array Oper} {rest : List Oper} {o : Oper} {a : Act} {Q : Exit → Act → World → Prop} (hgd : o.guard = none) (sl x : Operand) {t u : TypeId}
    (ho : o.op = .call { callee := .builtin .append, args := #[sl, x], argTypes := #[t, u] })
    {base : Nat} {e : TypeId} (ht : P.underlying t = some (.slice e)) (hu : P.underlying u = some .string)
    (hinfo : (P.info? e).map (fun i => (i.zero, i.size, i.bytes)) = some (some (.int .u8 0), 1, 1)) {g k cap : Nat} {xs : List Value} (hown : w.ownsRow base e 1 (.slice (some ⟨g, 0, none⟩) k cap) k xs)
    (hs : a.eval sl = .slice (some ⟨g, 0, none⟩) k k) (s : ByteArray) (hx : a.eval x = .string s)
    (hbytes : k + s.size ≤ 140737488355328) (hbase : base ≤ w.heap.size)
    (h : ∀ g' c' cap' w', k + s.size ≤ c' → w'.ownsRow base e 1 (.slice (some ⟨g', 0, none⟩) (k + s.size) cap') (k + s.size) (xs ++ Lib.strCells s) → w.grownBy w' (some g) → wpList P ops Q rest (a.put o.dst (.slice (some ⟨g', 0, none⟩) (k + s.size) c')) w') : wpList P ops Q (o :: rest) a w := by
  refine wpList_plain hgd fun K hK => ?_
  obtain ⟨g', c', cap', w', hrun, h2, h3, h4⟩ := run_app_str_clip (P := P) w (ty := o.type) ht hu hinfo hown s hbytes hbase
  unfold Oper.wp execOp
  simp only [ho, resolve, invoke, builtin, Sem.run_bind, Sem.run_pure, Result.andThen_ok, List.map_toArray, List.map_cons, List.map_nil, hs, hx, hrun]
  exact hK _ _ (h g' c' cap' w' h2 h3 h4)

theorem strCells_bvs (s : ByteArray) : Lib.strCells s = bvs s.data.toList := rfl
end Herb
namespace Go.Proofs.YtccbldlnfaiphaaDoor
open Go Go.RowKit Herb

theorem putText_any (w : World) (A : Option Addr) (n c : Nat) (l : List UInt8) (hln : l.length = n) (hnc : n ≤ c) (s : ByteArray) (hn : n + s.size ≤ 140737488355000) (hb : Bs w A l) :
    Calls Tryd.prog 29 #[.slice A n c, .string s] w fun e w' => ∃ k g cap, (l ++ enc s.size ++ s.data.toList).length = k ∧ e = .returned (.slice (some ⟨g, 0, none⟩) k k) ∧ w'.ownsRow w.heap.size 5 1 (.slice (some ⟨g, 0, none⟩) k cap) k (bvs (l ++ enc s.size ++ s.data.toList)) ∧ Below w.heap.size w w' := by
  have hss : (s.size : Int) % 18446744073709551616 = (s.size : Int) := by omega
  have hel := enc_len64 (n := s.size) (by omega)
  go_enter Tryd.func29, Tryd.ntmps29
  go_wp2_with fail
  refine (put_any w A n c l hln hnc (by omega) hb s.size (by omega)).mono ?_
  rintro _ w1 ⟨k, g, cap, hk, rfl, hown, hb1⟩
  have hkl : k ≤ n + 10 := by rw [← hk, List.length_append, hln]; omega
  go_wp2_with (at_builtin; refine wpList_app_str_clip _ rfl _ _ rfl Tryd.underlying30 Tryd.underlying9 info_u8 hown rfl _ rfl (by omega) hb1.size ?_; intro g' c' cap' w2 hc2 hown2 hg2)
  have hb2 := hb1.grown hg2 hb1.size (fun j hj => by cases hj; exact (hown.lt _ rfl).1)
  rw [strCells_bvs, ← bvs_append] at hown2
  refine (clip_any _ _ c' hc2 w2).mono ?_
  rintro _ w3 ⟨rfl, rfl⟩
  go_wp2
  go_ret
  exact ⟨k + s.size, g', cap', by rw [List.length_append, hk]; rfl, rfl, hown2, hb2⟩
end Go.Proofs.YtccbldlnfaiphaaDoor
