/- Walk of the document's GetText. -/
import Derived.Test.YtccbldlnfaiphaaDoorGetRef
import Derived.Test.YtccbldlnfaiphaaDoorGetText
set_option linter.unusedSimpArgs false
set_option linter.unusedVariables false
namespace Go.Proofs.YtccbldlnfaiphaaDoor
open Go Go.RowKit Herb

set_option maxHeartbeats 1600000 in
theorem refGetText_any (w : World) (A : Option Addr) (n c : Nat) (l : List UInt8) (hln : l.length = n) (hnc : n ≤ c) (hn : n ≤ 140737488355328) (hb : Bs w A l) :
    Calls Tryd.prog 70 #[.slice A n c] w fun e w' => e = .returned (.tuple #[.string ⟨(decT l).1.toArray⟩, .int .i64 ((decT l).2.1 : Int), .int .i64 ((decT l).2.2 : Int)]) ∧ w = w' := by
  have hg := refGet_any w A n c l hln hn hb
  obtain ⟨⟨v, t, e⟩, hd⟩ : ∃ d, dec l = d := ⟨_, rfl⟩
  rw [hd] at hg
  have hT : Hid (decT l = if e ≠ 0 then ([], 0, e) else if l.length - t < v then ([], 0, 5) else ((l.drop t).take v, t + v, 0)) := Lib.hid (by unfold decT; rw [hd])
  have hq : (e = 0 ∧ 1 ≤ t ∧ t ≤ n ∧ v < 18446744073709551616) ∨ 0 < e := by
    rcases dec_cases l with ⟨m, h, hm, rest, hl⟩ | h | h
    · rw [hd] at h
      cases h
      refine .inl ⟨rfl, enc_pos _, ?_, hm⟩
      rw [hl, List.length_append] at hln
      omega
    · rw [hd] at h; cases h; exact .inr (by omega)
    · rw [hd] at h; cases h; exact .inr (by omega)
  replace hd := Lib.hid hd
  go_enter Tryd.func70, Tryd.ntmps70
  rcases hq with ⟨rfl, ht1, ht, hv⟩ | he
  · by_cases h : n - t < v
    · have hr : ((n : Int) - (t : Int)) % 18446744073709551616 = (n : Int) - (t : Int) := by omega
      go_wp2_with fail
      refine hg.mono ?_
      rintro _ _ ⟨rfl, rfl⟩
      clear hg
      by_cases hct : c = t
      · subst hct
        go_wp2
        go_returns
        exact ⟨by rw [hT.out, if_neg (by omega), if_pos (by omega)]; rfl, rfl⟩
      · go_wp2
        go_returns
        exact ⟨by rw [hT.out, if_neg (by omega), if_pos (by omega)]; rfl, rfl⟩
    · obtain ⟨b, off, rfl, q, _⟩ := hb.at_ (show 0 < l.length by omega)
      have hlen : ((l.drop t).take v).length = v := by rw [List.length_take, List.length_drop]; omega
      have hb2 := hb.cut (k := t) (m := v) (by omega)
      have hb3 : v = 0 → Bs w (some ⟨b, off, none⟩) ((l.drop t).take v) := fun h0 => by subst h0; exact Bs.nil_ w _
      have hcv := fun c' => run_str (P := Tryd.prog) hb2 30 9 5 Tryd.underlying30 Tryd.underlying5 Tryd.underlying9 v c' hlen
      have hcv2 := fun h0 c' => run_str (P := Tryd.prog) (hb3 h0) 30 9 5 Tryd.underlying30 Tryd.underlying5 Tryd.underlying9 v c' hlen
      have hfin : Hid (decT l = ((l.drop t).take v, t + v, 0)) := Lib.hid (by rw [hT.out, if_neg (by omega), if_neg (by omega)])
      clear hb2 hb3 hT
      generalize (l.drop t).take v = z at *
      by_cases hct : c = t
      · subst hct
        obtain rfl : v = 0 := by omega
        have hcv2 := hcv2 rfl
        clear hcv
        go_wp2_with fail
        refine hg.mono ?_
        rintro _ _ ⟨rfl, rfl⟩
        clear hg
        go_wp2
        go_returns
        exact ⟨by rw [hfin.out]; rfl, rfl⟩
      · clear hcv2
        go_wp2_with fail
        refine hg.mono ?_
        rintro _ _ ⟨rfl, rfl⟩
        clear hg
        go_wp2
        go_returns
        exact ⟨by rw [hfin.out]; rfl, rfl⟩
  · have he' : ((e : Int) != 0) = true := by simp; omega
    go_wp2_with fail
    refine hg.mono ?_
    rintro _ _ ⟨rfl, rfl⟩
    clear hg
    go_wp2
    go_returns
    exact ⟨by rw [hT.out, if_pos (by omega)]; rfl, rfl⟩
end Go.Proofs.YtccbldlnfaiphaaDoor
