/- From a walk to a row: an argument that is a list of texts. -/
import Derived.Test.YtebledknjfojlaaDoorLift
import Derived.Test.YtebledknjfojlaaDoorStrs
import Derived.SliceStrings
set_option linter.unusedSimpArgs false
set_option linter.unusedVariables false
namespace Herb
open Go Go.RowKit Go.ChangeShapes Go.WideShapes Go.ChangeAt
section
variable {H : Type} {enc : TypeId × Value → H} {P : Program} {W : World} {base b0 : Nat} {held : Bool} {r : Reach}
theorem weights_strs (t : TypeId) : ∀ {ss : List ByteArray} {s : ByteArray}, s ∈ ss → s.data.toList.length ∈ DataW.weightsAll P t (strs ss : List (DataW H))
  | s0 :: ss, s, h => by
    show _ ∈ DataW.weights P t (.lit (.string s0.data.toList)) ++ DataW.weightsAll P t (strs ss)
    rw [List.mem_append]
    rcases List.mem_cons.1 h with rfl | h
    · left; simp [DataW.weights]
    · right; exact weights_strs t h
/-- A []string argument: texts that a slice holds. -/
theorem open_strs {t e : TypeId} {v : Value} {d : DataW H} {ps : List MemPlace} (ht : P.underlying t = some (.slice e)) (he : P.underlying e = some .string) (hce : P.cellsOf e = 1) (hbe : P.bytesOf e = 16)
    (hv : Value.okWide P W r b0 t v) (h : DataW.Trod enc P W 0 (fun _ => true) held t v d ps) :
    ∃ (A : Option Addr) (c : Nat) (ks : List ByteArray), v = .slice A ks.length c ∧ Ss W A ks ∧ ks.length ≤ c ∧ (A = none → c = 0) ∧
      ∀ {ts : List TypeId} {ds : List (DataW H)}, (DataW.weightsEach P ts ds).all (· ≤ reachBytes) = true → ∀ (j : Nat), ts[j]? = some t → ds[j]? = some d → c * 16 ≤ reachBytes ∧ ∀ s ∈ ks, s.size ≤ reachBytes := by
  obtain ⟨a0, len0, cap0, rfl⟩ := okWide_slice ht hv
  obtain ⟨fuel, hf⟩ := h
  rcases open_strings ht he hce hf with ⟨hcs, hx⟩ | ⟨x, len, cap, ss, hcs, _, hl, hm, hz, hx, hcell, hws⟩
  · simp [Value.cells] at hcs
    obtain ⟨rfl, rfl, rfl⟩ := hcs
    exact ⟨none, 0, [], rfl, Rd.nil_ _ _ _, Nat.le_refl _, fun _ => rfl, fun _ _ _ _ => ⟨Nat.zero_le _, fun _ h => by cases h⟩⟩
  · simp [Value.cells] at hcs
    obtain ⟨rfl, rfl, rfl⟩ := hcs
    have hz' : ss.length = cap0 := by simpa using hz
    refine ⟨some x, cap0, ss.take len0, ?_, ?_, ?_, (fun h => by cases h), ?_⟩
    · rw [List.length_take, Nat.min_eq_left (by omega)]
    · have hlen : (ss.take len0).length = len0 := by rw [List.length_take, Nat.min_eq_left (by omega)]
      refine ⟨by simp [svs_length], fun hn => ?_⟩
      obtain ⟨b, off, spot⟩ := x
      have h0 := hcell 0 (by omega)
      have hspot : spot = none := by simpa [Addr.add] using World.cell?_spot h0
      subst hspot
      have hblt : b < W.heap.size := by
        have := World.block_lt_of_cell? W _ h0
        simpa [Addr.add] using this
      refine ⟨b, off, rfl, hblt, fun j u hu => ?_⟩
      have hj : j < (ss.take len0).length := by
        rcases Nat.lt_or_ge j (ss.take len0).length with h | h
        · exact h
        · rw [List.getElem?_eq_none (by rw [svs_length]; exact h)] at hu; cases hu
      rw [svs_get hj] at hu
      have hj2 : j < ss.length := by omega
      have hc := hcell j hj2
      rw [add_eq] at hc
      rw [hc]
      simp only [Option.some.injEq] at hu
      rw [← hu]
      simp [List.getD, hj2]
    · rw [List.length_take]; omega
    · intro ts ds hw j hjt hjd
      have hd : d = .slice _ _ := congrArg Prod.fst hx
      rw [hd] at hjd
      have h1 := sized_slice hw hjt hjd ht
      rw [hbe] at h1
      simp [strs] at h1
      refine ⟨by omega, fun s hs => ?_⟩
      have hmem : s.data.toList.length ∈ DataW.weights P t (.slice (strs (ss.take len0)) (strs (ss.drop len0)) : DataW H) := by
        unfold DataW.weights
        rw [ht]
        exact List.mem_cons_of_mem _ (List.mem_append_left _ (weights_strs e hs))
      have := List.all_eq_true.1 hw _ (DataW.weights_mem_each hjt hjd _ hmem)
      simpa using this
end
end Herb
