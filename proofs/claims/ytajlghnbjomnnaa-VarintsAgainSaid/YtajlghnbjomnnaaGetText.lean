/- Walks of varints.GetText and of the document's. -/
import Derived.Test.YtajlghnbjomnnaaGetRef
import Derived.Test.YtajlghnbjomnnaaVarLaw
import Derived.Laws.IdiomStrings
set_option linter.unusedSimpArgs false
set_option linter.unusedVariables false
namespace Herb
open Go Go.RowKit
/-- 'string(b)'. -/
theorem run_str {P : Program} {w : World} {A : Option Addr} {l : List UInt8} (h : Bs w A l) (src dst e : TypeId) (hs : P.underlying src = some (.slice e)) (he : P.underlying e = some (.int .u8)) (hd : P.underlying dst = some .string) (n c : Nat) (hn : l.length = n) :
    (convert src dst (.slice A n c)).run P w = .ok (.string ⟨l.toArray⟩) w := by
  subst hn
  rcases A with _ | a
  · have hl0 : l = [] := by
      rcases l with _ | ⟨c, l⟩
      · rfl
      · obtain ⟨_, _, h, _⟩ := h.2 (by simp)
        cases h
    subst hl0
    rw [run_convert_bytes_string w src dst e none _ c hs he hd]
    simp [Conv.bytesToString]
    rfl
  · refine run_convert_bytes_back w src dst e a c l hs he hd (fun j hj => ?_)
    obtain ⟨b, off, e, _, hc⟩ := h.at_ hj
    cases e
    rw [add_eq]
    exact hc j hj
theorem Bs.cut {w : World} {b off : Nat} {l : List UInt8} (h : Bs w (some ⟨b, off, none⟩) l) {k m : Nat} (hm : k + m ≤ l.length) : Bs w (some ⟨b, off + k, none⟩) ((l.drop k).take m) := by
  have hlen : ((l.drop k).take m).length = m := by rw [List.length_take, List.length_drop]; omega
  refine ⟨by rw [bvs_length]; omega, fun hn => ?_⟩
  rw [hlen] at hn
  obtain ⟨b', off', e, hb, hc⟩ := Rd.at_ h (show k < l.length by omega)
  cases e
  refine ⟨b, off + k, rfl, hb, fun j u hu => ?_⟩
  rw [Nat.add_assoc]
  refine hc (k + j) u ?_
  unfold bvs at hu ⊢
  rw [List.map_take, List.map_drop, List.getElem?_take] at hu
  split at hu
  · rw [List.getElem?_drop] at hu; exact hu
  · cases hu
end Herb
namespace Go.Proofs.Ytajlghnbjomnnaa
open Go Go.RowKit Herb

set_option maxHeartbeats 1600000 in
theorem getText_any (w : World) (A : Option Addr) (n c : Nat) (l : List UInt8) (hln : l.length = n) (hnc : n ≤ c) (hn : n ≤ 140737488355328) (hb : Bs w A l) :
    Calls Try.prog 12 #[.slice A n c] w fun e w' => e = .returned (.tuple #[.string ⟨(decT l).1.toArray⟩, .int .i64 ((decT l).2.1 : Int), .int .i64 ((decT l).2.2 : Int)]) ∧ w = w' := by
  have hg := get_any w A n c l hln hn hb
  obtain ⟨⟨v, t, e⟩, hd⟩ : ∃ d, dec l = d := ⟨_, rfl⟩
  rw [hd] at hg
  have hT : Hid (decT l = if e ≠ 0 then ([], 0, e) else if l.length - t < v then ([], 0, 5) else ((l.drop t).take v, t + v, 0)) := Lib.hid (by unfold decT; rw [hd])
  have hq : (e = 0 ∧ 1 ≤ t ∧ t ≤ n ∧ v < 18446744073709551616) ∨ 0 < e := by
    rcases dec_cases l with ⟨m, h, hm, rest, hl⟩ | h | h
    · rw [hd] at h
      cases h
      refine .inl ⟨rfl, enc_pos _, ?_, hm⟩
      rw [hl, List.length_append] at hln
      omega
    · rw [hd] at h; cases h; exact .inr (by omega)
    · rw [hd] at h; cases h; exact .inr (by omega)
  replace hd := Lib.hid hd
  go_enter Try.func12, Try.ntmps12
  rcases hq with ⟨rfl, ht1, ht, hv⟩ | he
  · by_cases h : n - t < v
    · have hr : ((n : Int) - (t : Int)) % 18446744073709551616 = (n : Int) - (t : Int) := by omega
      go_wp2_with fail
      refine hg.mono ?_
      rintro _ _ ⟨rfl, rfl⟩
      clear hg
      go_wp2
      go_returns
      exact ⟨by rw [hT.out, if_neg (by omega), if_pos (by omega)]; rfl, rfl⟩
    · obtain ⟨b, off, rfl, q, _⟩ := hb.at_ (show 0 < l.length by omega)
      have hlen : ((l.drop t).take v).length = v := by rw [List.length_take, List.length_drop]; omega
      have hb2 := hb.cut (k := t) (m := v) (by omega)
      have hb3 : v = 0 → Bs w (some ⟨b, off, none⟩) ((l.drop t).take v) := fun h0 => by subst h0; exact Bs.nil_ w _
      have hcv := fun c' => run_str (P := Try.prog) hb2 22 9 5 Try.underlying22 Try.underlying5 Try.underlying9 v c' hlen
      have hcv2 := fun h0 c' => run_str (P := Try.prog) (hb3 h0) 22 9 5 Try.underlying22 Try.underlying5 Try.underlying9 v c' hlen
      have hfin : Hid (decT l = ((l.drop t).take v, t + v, 0)) := Lib.hid (by rw [hT.out, if_neg (by omega), if_neg (by omega)])
      clear hb2 hb3 hT
      generalize (l.drop t).take v = z at *
      by_cases hct : c = t
      · subst hct
        obtain rfl : v = 0 := by omega
        have hcv2 := hcv2 rfl
        clear hcv
        go_wp2_with fail
        refine hg.mono ?_
        rintro _ _ ⟨rfl, rfl⟩
        clear hg
        go_wp2
        go_returns
        exact ⟨by rw [hfin.out]; rfl, rfl⟩
      · clear hcv2
        go_wp2_with fail
        refine hg.mono ?_
        rintro _ _ ⟨rfl, rfl⟩
        clear hg
        go_wp2
        go_returns
        exact ⟨by rw [hfin.out]; rfl, rfl⟩
  · have he' : ((e : Int) != 0) = true := by simp; omega
    go_wp2_with fail
    refine hg.mono ?_
    rintro _ _ ⟨rfl, rfl⟩
    clear hg
    go_wp2
    go_returns
    exact ⟨by rw [hT.out, if_pos (by omega)]; rfl, rfl⟩

set_option maxHeartbeats 1600000 in
theorem refGetText_any (w : World) (A : Option Addr) (n c : Nat) (l : List UInt8) (hln : l.length = n) (hnc : n ≤ c) (hn : n ≤ 140737488355328) (hb : Bs w A l) :
    Calls Try.prog 13 #[.slice A n c] w fun e w' => e = .returned (.tuple #[.string ⟨(decT l).1.toArray⟩, .int .i64 ((decT l).2.1 : Int), .int .i64 ((decT l).2.2 : Int)]) ∧ w = w' := by
  have hg := refGet_any w A n c l hln hn hb
  obtain ⟨⟨v, t, e⟩, hd⟩ : ∃ d, dec l = d := ⟨_, rfl⟩
  rw [hd] at hg
  have hT : Hid (decT l = if e ≠ 0 then ([], 0, e) else if l.length - t < v then ([], 0, 5) else ((l.drop t).take v, t + v, 0)) := Lib.hid (by unfold decT; rw [hd])
  have hq : (e = 0 ∧ 1 ≤ t ∧ t ≤ n ∧ v < 18446744073709551616) ∨ 0 < e := by
    rcases dec_cases l with ⟨m, h, hm, rest, hl⟩ | h | h
    · rw [hd] at h
      cases h
      refine .inl ⟨rfl, enc_pos _, ?_, hm⟩
      rw [hl, List.length_append] at hln
      omega
    · rw [hd] at h; cases h; exact .inr (by omega)
    · rw [hd] at h; cases h; exact .inr (by omega)
  replace hd := Lib.hid hd
  go_enter Try.func13, Try.ntmps13
  rcases hq with ⟨rfl, ht1, ht, hv⟩ | he
  · by_cases h : n - t < v
    · have hr : ((n : Int) - (t : Int)) % 18446744073709551616 = (n : Int) - (t : Int) := by omega
      go_wp2_with fail
      refine hg.mono ?_
      rintro _ _ ⟨rfl, rfl⟩
      clear hg
      by_cases hct : c = t
      · subst hct
        go_wp2
        go_returns
        exact ⟨by rw [hT.out, if_neg (by omega), if_pos (by omega)]; rfl, rfl⟩
      · go_wp2
        go_returns
        exact ⟨by rw [hT.out, if_neg (by omega), if_pos (by omega)]; rfl, rfl⟩
    · obtain ⟨b, off, rfl, q, _⟩ := hb.at_ (show 0 < l.length by omega)
      have hlen : ((l.drop t).take v).length = v := by rw [List.length_take, List.length_drop]; omega
      have hb2 := hb.cut (k := t) (m := v) (by omega)
      have hb3 : v = 0 → Bs w (some ⟨b, off, none⟩) ((l.drop t).take v) := fun h0 => by subst h0; exact Bs.nil_ w _
      have hcv := fun c' => run_str (P := Try.prog) hb2 22 9 5 Try.underlying22 Try.underlying5 Try.underlying9 v c' hlen
      have hcv2 := fun h0 c' => run_str (P := Try.prog) (hb3 h0) 22 9 5 Try.underlying22 Try.underlying5 Try.underlying9 v c' hlen
      have hfin : Hid (decT l = ((l.drop t).take v, t + v, 0)) := Lib.hid (by rw [hT.out, if_neg (by omega), if_neg (by omega)])
      clear hb2 hb3 hT
      generalize (l.drop t).take v = z at *
      by_cases hct : c = t
      · subst hct
        obtain rfl : v = 0 := by omega
        have hcv2 := hcv2 rfl
        clear hcv
        go_wp2_with fail
        refine hg.mono ?_
        rintro _ _ ⟨rfl, rfl⟩
        clear hg
        go_wp2
        go_returns
        exact ⟨by rw [hfin.out]; rfl, rfl⟩
      · clear hcv2
        go_wp2_with fail
        refine hg.mono ?_
        rintro _ _ ⟨rfl, rfl⟩
        clear hg
        go_wp2
        go_returns
        exact ⟨by rw [hfin.out]; rfl, rfl⟩
  · have he' : ((e : Int) != 0) = true := by simp; omega
    go_wp2_with fail
    refine hg.mono ?_
    rintro _ _ ⟨rfl, rfl⟩
    clear hg
    go_wp2
    go_returns
    exact ⟨by rw [hT.out, if_pos (by omega)]; rfl, rfl⟩
end Go.Proofs.Ytajlghnbjomnnaa
