/- Walks of the reference's Bytes, Put (layer 1). -/
import Derived.Test.YtccbldlnfaiphaaDoorTwinB
import Derived.Test.YtccbldlnfaiphaaDoorApp
import Derived.Test.YtccbldlnfaiphaaDoorVar
import Derived.Lib.AppendStr
set_option linter.unusedSimpArgs false
set_option linter.unusedVariables false
namespace Go.Proofs.YtccbldlnfaiphaaDoor
open Go Go.RowKit Herb

theorem own_one (w : World) (base : Nat) (hb : base ≤ w.heap.size) (u : Value) : (w.alloc (.cells #[u] 5)).ownsRow base 5 1 (.slice (some ⟨w.heap.size, 0, none⟩) 1 1) 1 [u] :=
  ⟨rfl, .inr ⟨w.heap.size, 1, #[u], rfl, hb, heap_alloc_new w _, Nat.le_refl _, by unfold maxLen; omega, rfl, rfl⟩⟩
theorem own_blw {w w' : World} {base n size : Nat} {e : TypeId} {v : Value} {xs : List Value} (h : w.ownsRow base e size v n xs) (hb : Below w.heap.size w w') : w'.ownsRow base e size v n xs :=
  h.kept (row := none) ⟨hb.os, hb.tape, hb.output, hb.size, fun k hk _ => hb.block k hk⟩ (by cases v.ownBlock <;> simp)

set_option maxHeartbeats 800000 in
theorem refBytes_any : ∀ (n : Nat), n < 18446744073709551616 → ∀ w : World, Calls Tryd.prog 67 #[.int .u64 (n : Int)] w fun e w' => ∃ v k, e = .returned v ∧ (enc n).length = k ∧ w'.ownsRow w.heap.size 5 1 v k (bvs (enc n)) ∧ Below w.heap.size w w' := by
  intro n
  induction n using Nat.strongRecOn with
  | _ n ih =>
    intro hn w
    by_cases h : n < 128
    · have d : decide ((n : Int) < 128) = true := decide_eq_true (by omega)
      have e := enc_lt h
      have e2 : bvs (enc n) = [.int .u8 (n : Int)] := by rw [e]; simp [bvs, bv, UInt8.toNat_ofNat']; omega
      clear ih
      replace e2 := Lib.hid e2
      replace e := Lib.hid e
      go_enter Tryd.func67, Tryd.ntmps67
      go_wp2
      go_ret
      refine ⟨_, 1, rfl, by rw [e.out]; rfl, ?_, (Below.refl _ _).alloc (Nat.le_refl _) _⟩
      rw [e2.out]
      exact own_one w _ (Nat.le_refl _) _
    · have d : decide ((n : Int) < 128) = false := decide_eq_false (by omega)
      have hi := fun W => ih (n / 128) (by omega) (by omega) W
      have e := enc_ge (show 128 ≤ n by omega)
      have e2 : bvs (enc n) = [.int .u8 ((n : Int) % 128 + 128)] ++ bvs (enc (n / 128)) := by rw [e]; simp [bvs, bv, UInt8.toNat_ofNat']; omega
      have e3 : (enc n).length = 1 + (enc (n / 128)).length := by rw [e, List.length_cons]; omega
      have hdi : (n : Int) / 128 = ((n / 128 : Nat) : Int) := by omega
      have hle := enc_len64 (show n / 128 < 18446744073709551616 by omega)
      have one := bvs_one (enc (n / 128))
      rw [← hdi] at hi
      replace hi := Lib.hid hi
      replace e2 := Lib.hid e2
      replace e3 := Lib.hid e3
      replace one := Lib.hid one
      clear ih e hdi
      go_enter Tryd.func67, Tryd.ntmps67
      go_wp2_with fail
      refine (hi.out _).mono ?_
      rintro _ w2 ⟨v2, k2, rfl, hk2, hown2, b2⟩
      have h1 := own_blw (own_one w w.heap.size (Nat.le_refl _) (.int .u8 ((n : Int) % 128 + 128))) b2
      obtain ⟨A2, c2, rfl⟩ := own_slice hown2
      have r2 := Rd.of_own hown2
      have hb2 : Below w.heap.size w w2 := ((Below.refl _ _).alloc (Nat.le_refl _) _).trans (b2.mono (by simp))
      rw [hk2] at hle
      replace hk2 := Lib.hid hk2
      clear hown2 b2
      go_wp2_with (first | (at_builtin; refine wpList_app w2 rfl (.tmp 12) (.tmp 15) rfl Tryd.underlying30 info_u8 rfl (by omega) h1 rfl A2 k2 c2 r2 rfl one.out (by unfold maxLen; omega) (by omega) hb2.size ?_; intro v3 w3 hown3 hgrow3 _) | fail)
      go_ret
      refine ⟨_, 1 + k2, rfl, by rw [e3.out, hk2.out], ?_, below_app hb2 h1 (Nat.le_refl _) hb2.size hgrow3⟩
      rw [e2.out]
      exact hown3

set_option maxHeartbeats 800000 in
theorem refPut_any (w : World) (A : Option Addr) (n c : Nat) (l : List UInt8) (hln : l.length = n) (hn : n ≤ 140737488355000) (hb : Bs w A l) (m : Nat) (hm : m < 18446744073709551616) :
    Calls Tryd.prog 56 #[.slice A n c, .int .u64 (m : Int)] w fun e w' => ∃ v k, e = .returned v ∧ (l ++ enc m).length = k ∧ w'.ownsRow w.heap.size 5 1 v k (bvs (l ++ enc m)) ∧ Below w.heap.size w w' := by
  have rd0 : Rd w 1 A n (bvs l) := by
    unfold Bs at hb
    rw [hln] at hb
    exact hb
  have one0 := bvs_one l
  have one := bvs_one (enc m)
  have hle := enc_len64 hm
  have hi := fun W => refBytes_any m hm W
  replace hi := Lib.hid hi
  replace one := Lib.hid one
  replace one0 := Lib.hid one0
  replace hln := Lib.hid hln
  clear hb
  go_enter Tryd.func56, Tryd.ntmps56
  go_wp2_with (first | (at_builtin; refine wpList_app w rfl (.const (.slice none 0 0)) (.tmp 5) rfl Tryd.underlying30 info_u8 rfl (by omega) (World.ownsRow_nil w w.heap.size _ _) rfl A n c rd0 rfl one0.out (by unfold maxLen; omega) (by omega) (Nat.le_refl _) ?_; intro v1 w1 hown1 hgrow1 _) | fail)
  have b1 : Below w.heap.size w w1 := (Below.refl _ _).grown hgrow1 (Nat.le_refl _) (fun j hj => by simp [Value.ownBlock] at hj)
  rw [Nat.zero_add, List.nil_append] at hown1
  refine (hi.out _).mono ?_
  rintro _ w2 ⟨v2, k2, rfl, hk2, hown2, b2⟩
  have h1 := own_blw hown1 b2
  obtain ⟨A2, c2, rfl⟩ := own_slice hown2
  have r2 := Rd.of_own hown2
  have hb2 : Below w.heap.size w w2 := b1.trans (b2.mono b1.size)
  rw [hk2] at hle
  replace hk2 := Lib.hid hk2
  clear hown2 b2 hown1 hgrow1 b1
  go_wp2_with (first | (at_builtin; refine wpList_app w2 rfl (.tmp 6) (.tmp 8) rfl Tryd.underlying30 info_u8 rfl (by omega) h1 rfl A2 k2 c2 r2 rfl one.out (by unfold maxLen; omega) (by omega) hb2.size ?_; intro v3 w3 hown3 hgrow3 _) | fail)
  go_ret
  refine ⟨_, n + k2, rfl, by rw [List.length_append, hln.out, hk2.out], ?_, below_app hb2 h1 (Nat.le_refl _) hb2.size hgrow3⟩
  rw [bvs_append]
  exact hown3

theorem strCells_bvs (s : ByteArray) : Lib.strCells s = bvs s.data.toList := rfl
set_option maxHeartbeats 800000 in
theorem refPutText_any (w : World) (A : Option Addr) (n c : Nat) (l : List UInt8) (hln : l.length = n) (s : ByteArray) (hn : n + s.size ≤ 140737488355000) (hb : Bs w A l) :
    Calls Tryd.prog 57 #[.slice A n c, .string s] w fun e w' => ∃ v k, e = .returned v ∧ (l ++ enc s.size ++ s.data.toList).length = k ∧ w'.ownsRow w.heap.size 5 1 v k (bvs (l ++ enc s.size ++ s.data.toList)) ∧ Below w.heap.size w w' := by
  obtain ⟨m, hm⟩ : ∃ m, s.size = m := ⟨_, rfl⟩
  have hsl : s.data.toList.length = m := hm
  have pp := refPut_any w A n c l hln (by omega) hb m (by omega)
  have hle := enc_len64 (show m < 18446744073709551616 by omega)
  obtain ⟨i0, hi, hz0, hz1, hz2⟩ := info_parts info_u8
  rw [hm] at hn ⊢
  replace pp := Lib.hid pp
  go_enter Tryd.func57, Tryd.ntmps57
  go_wp2_with fail
  refine pp.out.mono ?_
  rintro _ w2 ⟨v2, k2, rfl, hk2, hown2, b2⟩
  have hk2b : k2 ≤ n + 10 := by rw [← hk2, List.length_append, hln]; omega
  replace hk2 := Lib.hid hk2
  replace hm := Lib.hid hm
  replace hsl := Lib.hid hsl
  replace hln := Lib.hid hln
  go_wp2_with (first | (at_builtin; refine Lib.wpList_append_own_string w2 rfl (.tmp 9) (.tmp 10) 30 9 rfl w.heap.size 5 i0 Tryd.underlying30 Tryd.underlying9 hi hz0 hz1 hz2 v2 k2 _ rfl hown2 s rfl (by unfold maxLen; have := hm.out; omega) (by have := hm.out; omega) b2.size ?_; intro v3 w3 hown3 hgrow3 _) | fail)
  go_ret
  refine ⟨_, k2 + s.size, rfl, by rw [List.length_append, hk2.out, hsl.out, hm.out], ?_, below_app b2 hown2 (Nat.le_refl _) b2.size hgrow3⟩
  rw [bvs_append, ← strCells_bvs]
  exact hown3
end Go.Proofs.YtccbldlnfaiphaaDoor
