/- Walks of bytes.Compare, bytes.Equal, slices.Clone, and of skips' there, New, Len. -/
import Derived.Test.YtidnhcningkcaaaDoorRows
import Derived.Test.YtidnhcningkcaaaDoorSkMem
import Derived.Test.YtidnhcningkcaaaDoorStr
import Derived.Lib.Bytealg
import Derived.Lib.Hide
import Derived.Lib.SliceRun
import Derived.Laws.Externs
import Derived.Handy
import Derived.WalkLawsBesides
set_option linter.unusedSimpArgs false
set_option linter.unusedVariables false
namespace Herb
open Go Go.RowKit
/-- The order of two texts: -1, 0, 1. -/
def cmpB (a b : List UInt8) : Int := if less a b = true then -1 else if less b a = true then 1 else 0
theorem compareBytes_eq : ∀ a b : List UInt8, Lib.compareBytes a b = cmpB a b
  | [], [] => rfl
  | [], _ :: _ => rfl
  | _ :: _, [] => rfl
  | x :: a, y :: b => by
    unfold Lib.compareBytes cmpB
    rcases u8_tri x y with h | rfl | h
    · rw [if_pos h, less_cons_lt h, if_pos rfl]
    · rw [if_neg (UInt8.lt_irrefl x), if_neg (UInt8.lt_irrefl x), compareBytes_eq a b, less_cons_eq, less_cons_eq]
      rfl
    · rw [if_neg (fun e => by rw [UInt8.lt_iff_toNat_lt] at *; omega), if_pos h, less_cons_gt h, less_cons_lt h, if_neg (by simp), if_pos rfl]
theorem cmpB_lt {a b : List UInt8} (h : less a b = true) : cmpB a b = -1 := by unfold cmpB; rw [if_pos h]
theorem cmpB_ge {a b : List UInt8} (h : less a b = false) : 0 ≤ cmpB a b := by
  unfold cmpB
  rw [if_neg (by rw [h]; simp)]
  split <;> omega
theorem run_loadBytes {P : Program} {w : World} {b : Nat} : ∀ (l : List UInt8) (off : Nat) (acc : ByteArray), (∀ (j : Nat) (u : Value), (bvs l)[j]? = some u → w.cell? ⟨b, off + j, none⟩ = some u) →
    (Extern.Bytes.loadBytes ⟨b, off, none⟩ l.length acc).run P w = .ok ⟨(acc.data.toList ++ l).toArray⟩ w
  | [], off, acc, _ => by simp [Extern.Bytes.loadBytes]
  | c :: l, off, acc, h => by
    have h0 := h 0 (bv c) (by simp [bvs])
    rw [Nat.add_zero] at h0
    have ih := run_loadBytes (P := P) (w := w) (b := b) l (off + 1) (acc.push c) (fun j u hu => by
      have := h (j + 1) u (by simpa [bvs] using hu)
      rwa [show off + (j + 1) = off + 1 + j by omega] at this)
    have e1 : (⟨b, off, none⟩ : Addr).add 1 = ⟨b, off + 1, none⟩ := add_eq b off 1
    simp only [List.length_cons, Extern.Bytes.loadBytes, Sem.run_bind, run_load, h0, Result.andThen]
    simp only [bv, Int.toNat_natCast, e1]
    have e2 : c.toNat.toUInt8 = c := by simp
    rw [e2, ih]
    simp [ByteArray.push]
theorem run_bytesOf {P : Program} {w : World} {A : Option Addr} {l : List UInt8} (h : Bs w A l) (n c : Nat) (hn : l.length = n) : (Extern.Bytes.bytesOf (.slice A n c)).run P w = .ok ⟨l.toArray⟩ w := by
  subst hn
  rcases A with _ | a
  · have hl0 : l = [] := by
      rcases l with _ | ⟨c, l⟩
      · rfl
      · obtain ⟨_, _, h, _⟩ := h.2 (by simp)
        cases h
    subst hl0
    rfl
  · rcases Nat.eq_zero_or_pos l.length with h0 | h0
    · have hl0 := List.eq_nil_of_length_eq_zero h0
      subst hl0
      simp [Extern.Bytes.bytesOf, Extern.Bytes.loadBytes]
      rfl
    · obtain ⟨b, off, e, _, hc⟩ := h.2 h0
      cases e
      exact (run_loadBytes l off .empty hc).trans (by simp)
theorem run_compare {P : Program} {w : World} {A B : Option Addr} {a b : List UInt8} (ha : Bs w A a) (hb : Bs w B b) (n c m d : Nat) (hn : a.length = n) (hm : b.length = m) :
    (Extern.BytealgCompare.compare #[.slice A n c, .slice B m d]).run P w = .ok (.int .i64 (cmpB a b)) w := by
  change Sem.run P (do pure (goInt (Extern.BytealgCompare.cmp (← Extern.Bytes.bytesOf (.slice A n c)) (← Extern.Bytes.bytesOf (.slice B m d))))) w = _
  simp only [Sem.run_bind, run_bytesOf ha n c hn, run_bytesOf hb m d hm, Sem.run_pure, Result.andThen]
  rw [Lib.cmp_eq, compareBytes_eq]
  rfl
theorem own_keyAt {w : World} {base : Nat} {e : TypeId} {A : Option Addr} {n c : Nat} {l : List UInt8} (h : w.ownsRow base e 1 (.slice A n c) n (bvs l)) : KeyAt w e A l := by
  rcases h.2 with ⟨h1, h2⟩ | ⟨g, cap, cur, hv, _, hg, _, _, _, ht⟩
  · left
    have := h.1
    rw [bvs_length, h2] at this
    exact List.eq_nil_of_length_eq_zero (by omega)
  · cases hv
    refine .inr ⟨g, cur, _, rfl, hg, fun j u hu => ?_⟩
    rw [← ht, List.getElem?_take] at hu
    split at hu
    · simpa using hu
    · cases hu
end Herb
namespace Go.Proofs.YtidnhcningkcaaaDoor
open Go Go.RowKit Herb
theorem infoB : (Tryd.prog.info? 5).map (fun i => (i.zero, i.size, i.bytes)) = some (some (.int .u8 0), 1, 1) := by kernel_rfl

set_option maxHeartbeats 400000 in
theorem compare_bs (w : World) (A B : Option Addr) (a b : List UInt8) (n c m d : Nat) (hn : a.length = n) (hm : b.length = m) (ha : Bs w A a) (hb : Bs w B b) :
    Calls Tryd.prog 26 #[.slice A n c, .slice B m d] w fun e w' => e = .returned (.int .i64 (cmpB a b)) ∧ w = w' := by
  have hx : (callFunc 31 #[.slice A n c, .slice B m d]).run Tryd.prog w = .ok (.value (.int .i64 (cmpB a b))) w := by
    rw [run_callFunc_extern Tryd.func31 (by kernel_rfl) (by kernel_rfl) (by kernel_rfl) (e := Extern.BytealgCompare.compare) (by kernel_rfl), run_compare ha hb n c m d hn hm]
    rfl
  go_enter Tryd.func26, Tryd.ntmps26
  go_wp2
  go_ret
  exact ⟨rfl, rfl⟩
set_option maxHeartbeats 400000 in
theorem equal_bs (w : World) (A B : Option Addr) (a b : List UInt8) (n c m d : Nat) (hn : a.length = n) (hm : b.length = m) (ha : Bs w A a) (hb : Bs w B b) :
    Calls Tryd.prog 19 #[.slice A n c, .slice B m d] w fun e w' => e = .returned (.bool (a == b)) ∧ w = w' := by
  have k1 := run_str (P := Tryd.prog) ha 23 9 5 Tryd.underlying23 Tryd.underlying5 Tryd.underlying9 n c hn
  have k2 := run_str (P := Tryd.prog) hb 23 9 5 Tryd.underlying23 Tryd.underlying5 Tryd.underlying9 m d hm
  go_enter Tryd.func19, Tryd.ntmps19
  go_wp2
  go_ret
  refine ⟨?_, rfl⟩
  first | rfl | simp
/-- slices.Clone: a row of one's own with the same bytes. -/
theorem clone_bs (w : World) (A : Option Addr) (n c : Nat) (l : List UInt8) (hln : l.length = n) (hn : n ≤ 140737488355328) (hb : Bs w A l) :
    Calls Tryd.prog 20 #[.slice A n c] w fun e w' => ∃ A' c', e = .returned (.slice A' n c') ∧ w'.ownsRow w.heap.size 5 1 (.slice A' n c') n (bvs l) ∧ Below w.heap.size w w' := by
  subst hln
  have q : ∀ (w : World) (a : Option Addr) (n c n' c' : Nat), (binOp .eql 23 (.slice a n c) (.slice none n' c')).run Tryd.prog w = .ok (.bool a.isNone) w := fun w a n c n' c' => Lib.run_eql_slice_nil w _ _ a n c n' c' Tryd.underlying23
  go_enter Tryd.func20, Tryd.ntmps20
  rcases A with _ | a
  · have hl0 : l = [] := by
      rcases l with _ | ⟨c, l⟩
      · rfl
      · obtain ⟨_, _, h, _⟩ := hb.2 (by simp)
        cases h
    subst hl0
    go_wp2
    go_ret
    exact ⟨_, _, rfl, World.ownsRow_nil _ _ _ _, Below.refl _ _⟩
  · go_wp2_with (at_builtin; refine wpList_app _ rfl _ _ rfl Tryd.underlying23 infoB rfl (by omega) (World.ownsRow_made w #[] 0 (Nat.le_refl _) (Nat.zero_le _) rfl) rfl _ l.length c (hb.alloc _) rfl (bvs_one l) (by unfold maxLen; omega) (by omega) (by simp) ?_; intro v1 w1 hown1 hgrow1 hlie1)
    rw [Nat.zero_add, List.nil_append] at hown1
    obtain ⟨A1, c1, rfl⟩ := own_slice hown1
    go_wp2
    go_ret
    exact ⟨_, _, rfl, hown1, ((Below.refl _ w).alloc (Nat.le_refl _) _).grown hgrow1 (by simp) (fun j hj => by simp [Value.ownBlock] at hj; omega)⟩

theorem there_yes (w : World) (base p g cap : Nat) (N : List Nd) (h : SkAt w base p g cap N) (hN : 0 < N.length) :
    Calls Tryd.prog 17 #[.pointer (some ⟨p, 0, none⟩)] w fun e w' => e = .returned (.bool true) ∧ w = w' := by
  have hc := h.box.cell 0
  obtain ⟨n, hn⟩ : ∃ n, N.length = n := ⟨_, rfl⟩
  rw [hn] at hc hN
  go_enter Tryd.func17, Tryd.ntmps17
  go_wp2
  go_ret
  exact ⟨rfl, rfl⟩
theorem len_any (w : World) (base p g cap : Nat) (N : List Nd) (h : SkAt w base p g cap N) (n : Nat) (hN : N.length = n + 1) (hn : n ≤ 1000000) :
    Calls Tryd.prog 11 #[.pointer (some ⟨p, 0, none⟩)] w fun e w' => e = .returned (.int .i64 (n : Int)) ∧ w = w' := by
  have ht := there_yes w base p g cap N h (by omega)
  have hc := h.box.cell 0
  rw [hN] at hc
  clear hN
  go_enter Tryd.func11, Tryd.ntmps11
  go_wp2_with fail
  refine ht.mono ?_
  clear ht
  rintro _ _ ⟨rfl, rfl⟩
  go_wp2
  go_ret
  exact ⟨rfl, rfl⟩
end Go.Proofs.YtidnhcningkcaaaDoor
