/- What is put is got, but for its line and value; without its last byte it ends too soon, with one more it is none; of what is got the same bytes are put: for every input, no condition. -/
import Derived.Test.YtelppijpmjoblaaKeyBackP
import Derived.Test.YtelppijpmjoblaaKeyLives
import Derived.Test.YtelppijpmjoblaaApp2
import Derived.Test.YtelppijpmjoblaaSameB
set_option linter.unusedSimpArgs false
set_option linter.unusedVariables false
namespace Go.Proofs.Ytelppijpmjoblaa.lawKeysBack
open Go Go.RowKit Herb Go.ChangeShapes Go.WideShapes Go.ChangeAt

theorem esc_ge (a : List UInt8) : a.length + 2 ≤ (esc a).length := by
  induction a with
  | nil => simp [esc, escB]
  | cons c a ih =>
    rw [esc_cons, List.length_append, List.length_cons]
    split <;> simp <;> omega
theorem put_ge {k : ByteArray} {va se ki : Nat} (hm : mayB k se ki = true) : 16 ≤ (putL k va se ki).length ∧ (putL k va se ki).length ≤ 79 := by
  obtain ⟨m1, m2, _, _⟩ := (mayB_iff k se ki).1 hm
  have := esc_ge k.data.toList
  have := esc_length k.data.toList
  unfold putL
  rw [List.length_append, tailL_length]
  omega
theorem far_bs {w : World} {g o : Nat} {l : List UInt8} (h : Bs w (some ⟨g, o, none⟩) l) {b i : Nat} (hne : b ≠ g) (u : Value) : Bs (w.setCell ⟨b, i, none⟩ u) (some ⟨g, o, none⟩) l := by
  refine ⟨h.1, fun hn => ?_⟩
  obtain ⟨b', o', e, hb, hc⟩ := h.2 hn
  cases e
  refine ⟨g, o, rfl, by simpa [World.setCell] using hb, fun j v hv => ?_⟩
  rw [World.cell?_setCell_other _ _ _ _ (fun e => hne (by cases e; rfl))]
  exact hc j v hv
theorem ba_back (k : ByteArray) : (⟨k.data.toList.toArray⟩ : ByteArray) = k := by cases k; simp

set_option maxRecDepth 100000 in
set_option maxHeartbeats 800000 in
theorem walk (w : World) (k v : ByteArray) (va se li ki : Nat) (h1 : va < 4294967296) (h2 : se < 18446744073709551616) (h3 : li < 18446744073709551616) (h4 : ki < 256) (A : Option Addr) (c : Nat) (l : List UInt8) (hl : l.length ≤ 140737488355328) (hB : Bs w A l) (hlc : l.length ≤ c) (hc : c ≤ 140737488355328) (x : Nat) (hx : x < 256) :
    Calls Try.prog 4 #[.agg #[.string k, .int .u32 (va : Int), .int .u64 (se : Int), .int .u64 (li : Int), .int .u8 (ki : Int), .string v], .slice A l.length c, .int .u8 (x : Int)] w
      fun e w' => e = .returned (.bool true) ∧ Below w.heap.size w w' := by
  clear h3
  obtain ⟨n, hn⟩ : ∃ n, l.length = n := ⟨_, rfl⟩
  rw [hn] at hl hlc ⊢
  have kb := Blk.new w 29 #[.string k, .int .u32 (va : Int), .int .u64 (se : Int), .int .u64 (li : Int), .int .u8 (ki : Int), .string v]
  have hbel := (Below.refl w.heap.size w).alloc (Nat.le_refl _) (.cells #[.string k, .int .u32 (va : Int), .int .u64 (se : Int), .int .u64 (li : Int), .int .u8 (ki : Int), .string v] 29)
  have hB0 := hB
  replace hB := hB.alloc (.cells #[.string k, .int .u32 (va : Int), .int .u64 (se : Int), .int .u64 (li : Int), .int .u8 (ki : Int), .string v] 29)
  replace hn := Lib.hid hn
  have p1y := fun W => put_yes W k v va se li ki h1 h2 h4
  have p1n := fun W => put_no W k v va se li ki
  replace p1y := Lib.hid p1y
  replace p1n := Lib.hid p1n
  have heq := fun W => fact_refl W k ⟨#[]⟩ (va : Int) (se : Int) 0 (ki : Int)
  have hgd : Try.prog.eqGuardType Try.prog.depth 29 = false := by kernel_rfl
  go_enter Try.func4, Try.ntmps4
  by_cases hbig : 1000 < n
  · have d1 : decide ((1000 : Int) < (n : Int)) = true := decide_eq_true (by omega)
    go_wp2_with fail
    refine (lives_any _).mono ?_
    rintro _ w1 ⟨rfl, b1⟩
    go_wp2
    go_ret
    exact ⟨rfl, hbel.trans (b1.mono hbel.size)⟩
  · have d1 : decide ((1000 : Int) < (n : Int)) = false := decide_eq_false (by omega)
    have hn1000 : n ≤ 1000 := by omega
    clear hbig hl hc
    have e0 := kb.cell
    rcases hm : mayB k se ki with _ | _
    · replace p1n := fun W => p1n.out W hm
      replace p1n := Lib.hid p1n
      clear p1y heq
      replace hm := Lib.hid hm
      go_wp2_with fail
      refine (p1n.out _).mono ?_
      clear e0
      rintro _ w1 ⟨rfl, b1⟩
      replace hB := hB.below b1
      replace hbel := hbel.trans (b1.mono hbel.size)
      clear b1 kb p1n
      obtain ⟨⟨e, K, vb, sb, kj⟩, hG⟩ : ∃ R, getP l = R := ⟨_, rfl⟩
      go_wp2_with fail
      refine (get_any _ A n c l hn.out hlc (by omega) hB e K vb sb kj hG).mono ?_
      rintro _ w6 ⟨rfl, b6⟩
      replace hB := (hB.below b6).alloc (.cells #[.string ⟨K.toArray⟩, .int .u32 (vb : Int), .int .u64 (sb : Int), .int .u64 0, .int .u8 (kj : Int), .string ⟨#[]⟩] 29)
      replace b6 := hbel.trans (b6.mono hbel.size)
      have b7 := b6.alloc b6.size (.cells #[.string ⟨K.toArray⟩, .int .u32 (vb : Int), .int .u64 (sb : Int), .int .u64 0, .int .u8 (kj : Int), .string ⟨#[]⟩] 29)
      have k7 := Blk.new w6 29 #[.string ⟨K.toArray⟩, .int .u32 (vb : Int), .int .u64 (sb : Int), .int .u64 0, .int .u8 (kj : Int), .string ⟨#[]⟩]
      clear hbel
      by_cases he : e = 0
      · subst he
        obtain ⟨q1, q2, q3, q4, q5⟩ := getP_back l K vb sb kj hG
        replace hG := Lib.hid hG
        have cp := fun W => put_yes W ⟨K.toArray⟩ ⟨#[]⟩ vb sb 0 kj q3 q4 q5 q1
        rw [q2] at cp
        clear q1 q2 q3 q4 q5
        replace cp := Lib.hid cp
        have e7 := k7.cell
        go_wp2_with fail
        refine (cp.out _).mono ?_
        clear e7
        rintro _ w8 ⟨g8, n8, rfl, hn8, _, hs8, b8⟩
        have hnn : n8 = n := hn8.trans hn.out
        clear hn8
        subst hnn
        replace hB := hB.below b8
        replace b8 := b7.trans (b8.mono b7.size)
        go_wp2_with fail
        refine (sameBytes_yes w8 _ A n8 _ c l hn.out (by omega) hs8 hB).mono ?_
        rintro _ w9 ⟨rfl, b9⟩
        replace b9 := b8.trans (b9.mono b8.size)
        go_wp2_with fail
        refine (lives_any _).mono ?_
        rintro _ w10 ⟨rfl, b10⟩
        go_wp2
        go_ret
        exact ⟨rfl, b9.trans (b10.mono b9.size)⟩
      · obtain ⟨he45, rfl, rfl, rfl, rfl⟩ := getP_err l e vb sb kj K hG he
        have hnm : n ≤ 1000000 := by omega
        have pn := fun W (h : Bs W A l) => no_any W A n c l hn.out hlc hnm h e hG
        have d3 : ((e : Int) == 0) = false := by simpa using he
        have d4 : ((e : Int) != 0) = true := by simpa using he
        replace hG := Lib.hid hG
        replace pn := Lib.hid pn
        replace he45 := Lib.hid he45
        replace he := Lib.hid he
        go_wp2_with fail
        refine (pn.out _ hB).mono ?_
        rintro _ w8 ⟨rfl, b8⟩
        replace b8 := b7.trans (b8.mono b7.size)
        clear d3 d4
        rcases he45.out with rfl | rfl
        all_goals
          go_wp2_with fail
          refine (lives_any _).mono ?_
          rintro _ w9 ⟨rfl, b9⟩
          go_wp2
          go_ret
          exact ⟨rfl, b8.trans (b9.mono b8.size)⟩
    · have hgp := getP_put k va se ki h1 h2 hm
      have hgl := getP_less k va se ki hm
      have hgm := getP_more k va se ki (UInt8.ofNat x) hm
      have hge := put_ge (va := va) hm
      replace p1y := fun W => p1y.out W hm
      obtain ⟨X, hX⟩ : ∃ X, putL k va se ki = X := ⟨_, rfl⟩
      rw [hX] at hgp hgl hgm hge p1y
      replace p1y := Lib.hid p1y
      clear p1n hX h1 h2 h4
      replace hgp := Lib.hid hgp
      replace hgl := Lib.hid hgl
      replace hgm := Lib.hid hgm
      replace hm := Lib.hid hm
      replace hge := Lib.hid hge
      go_wp2_with fail
      refine (p1y.out _).mono ?_
      clear e0
      rintro _ w1 ⟨g1, n1, rfl, hn1, hg1, hs1, b1⟩
      have hn16 : 16 ≤ n1 := by rw [hn1]; exact hge.out.1
      have hn79 : n1 ≤ 79 := by rw [hn1]; exact hge.out.2
      replace hn1 := Lib.hid hn1.symm
      replace hB := hB.below b1
      replace kb := kb.below b1 kb.lt
      replace hbel := hbel.trans (b1.mono hbel.size)
      replace hg1 : w.heap.size ≠ g1 := by simp at hg1; omega
      clear b1 hge
      have pg := get_any w1 (some ⟨g1, 0, none⟩) n1 n1 X hn1.out (Nat.le_refl _) (by omega) hs1 0 _ va se ki hgp.out
      rw [ba_back] at pg
      go_wp2_with fail
      refine pg.mono ?_
      clear pg
      rintro _ w2 ⟨rfl, b2⟩
      have k2 := Blk.new w2 29 #[.string k, .int .u32 (va : Int), .int .u64 (se : Int), .int .u64 0, .int .u8 (ki : Int), .string ⟨#[]⟩]
      have kb0lt := Nat.lt_of_lt_of_le kb.lt b2.size
      replace hB := (hB.below b2).alloc (.cells #[.string k, .int .u32 (va : Int), .int .u64 (se : Int), .int .u64 0, .int .u8 (ki : Int), .string ⟨#[]⟩] 29)
      replace hs1 := (hs1.below b2).alloc (.cells #[.string k, .int .u32 (va : Int), .int .u64 (se : Int), .int .u64 0, .int .u8 (ki : Int), .string ⟨#[]⟩] 29)
      replace kb := (kb.below b2 kb.lt).alloc (.cells #[.string k, .int .u32 (va : Int), .int .u64 (se : Int), .int .u64 0, .int .u8 (ki : Int), .string ⟨#[]⟩] 29)
      replace hbel := hbel.trans (b2.mono hbel.size)
      have hsz := hbel.size
      replace hbel := hbel.alloc hbel.size (.cells #[.string k, .int .u32 (va : Int), .int .u64 (se : Int), .int .u64 0, .int .u8 (ki : Int), .string ⟨#[]⟩] 29)
      clear b2
      have hne : w2.heap.size ≠ w.heap.size := by have := kb0lt; omega
      have k3 : Blk ((w2.alloc (.cells #[.string k, .int .u32 (va : Int), .int .u64 (se : Int), .int .u64 0, .int .u8 (ki : Int), .string ⟨#[]⟩] 29)).setCell ⟨w.heap.size, 3, none⟩ (.int .u64 0)) w.heap.size 29 #[.string k, .int .u32 (va : Int), .int .u64 (se : Int), .int .u64 0, .int .u8 (ki : Int), .string v] := kb.store 3 _
      have k4 : Blk (((w2.alloc (.cells #[.string k, .int .u32 (va : Int), .int .u64 (se : Int), .int .u64 0, .int .u8 (ki : Int), .string ⟨#[]⟩] 29)).setCell ⟨w.heap.size, 3, none⟩ (.int .u64 0)).setCell ⟨w.heap.size, 5, none⟩ (.string ⟨#[]⟩)) w.heap.size 29 #[.string k, .int .u32 (va : Int), .int .u64 (se : Int), .int .u64 0, .int .u8 (ki : Int), .string ⟨#[]⟩] := k3.store 5 _
      have m4 : Blk (((w2.alloc (.cells #[.string k, .int .u32 (va : Int), .int .u64 (se : Int), .int .u64 0, .int .u8 (ki : Int), .string ⟨#[]⟩] 29)).setCell ⟨w.heap.size, 3, none⟩ (.int .u64 0)).setCell ⟨w.heap.size, 5, none⟩ (.string ⟨#[]⟩)) w2.heap.size 29 #[.string k, .int .u32 (va : Int), .int .u64 (se : Int), .int .u64 0, .int .u8 (ki : Int), .string ⟨#[]⟩] := (k2.far (p := ⟨w.heap.size, 3, none⟩) hne _).far (p := ⟨w.heap.size, 5, none⟩) hne _
      have b4 := (hbel.setCell (p := ⟨w.heap.size, 3, none⟩) (Nat.le_refl _) (.int .u64 0)).setCell (p := ⟨w.heap.size, 5, none⟩) (Nat.le_refl _) (.string ⟨#[]⟩)
      have cb3 := kb.cell 3
      have fb3 := kb.frozen 3
      have cb5 := k3.cell 5
      have fb5 := k3.frozen 5
      have ck := k4.cell
      have cm := m4.cell
      clear kb k3 k4 m4 k2 hne kb0lt
      have d16 : decide ((n1 : Int) < 16) = false := decide_eq_false (by omega)
      replace hs1 := far_bs (b := w.heap.size) (i := 5) (far_bs (b := w.heap.size) (i := 3) hs1 hg1 (.int .u64 0)) hg1 (.string ⟨#[]⟩)
      replace hB := hB0.below b4
      replace hbel := b4
      clear hsz b4 hg1
      have hs1t := hs1.take (n1 - 1)
      have hglt := hgl.out
      rw [hn1.out] at hglt
      have pn := no_any _ (some ⟨g1, 0, none⟩) (n1 - 1) n1 (X.take (n1 - 1)) (by rw [List.length_take, hn1.out]; omega) (by omega) (by omega) hs1t 5 hglt
      clear hs1t hglt
      go_wp2_with fail
      refine pn.mono ?_
      clear pn cb3 cb5 fb3 fb5 ck cm
      rintro _ w3 ⟨rfl, b3⟩
      replace hB := hB.below b3
      replace hs1 := hs1.below b3
      replace hbel := hbel.trans (b3.mono hbel.size)
      clear b3 heq hgd
      have cX : Rd w3 1 (some ⟨g1, 0, none⟩) n1 (bvs X) := by have := hn1.out; subst this; exact hs1
      go_wp2_with (first
        | (at_builtin; refine wpList_app_g w3 rfl _ _ rfl Try.underlying22 info_u8 rfl (by omega) (World.ownsRow_nil w3 w3.heap.size _ _) rfl (some ⟨g1, 0, none⟩) n1 n1 (news := bvs X) cX rfl (bvs_one X) (by unfold maxLen; omega) (by omega) (Nat.le_refl _) ?_; intro v4 w4 hown4 hgrow4 hlie4; have hB4 : Below w3.heap.size w3 w4 := (Below.refl _ _).grown hgrow4 (Nat.le_refl _) (fun j hj => by simp [Value.ownBlock] at hj))
        | (at_builtin; refine wpList_app_g (w4.alloc (.cells #[.int .u8 (x : Int)] 5)) rfl _ _ rfl Try.underlying22 info_u8 rfl (by omega) (hown4.alloc (.cells #[.int .u8 (x : Int)] 5)) rfl _ 1 1 (Rd.one w4 5 (.int .u8 (x : Int))) rfl (oneCell_one rfl) (by unfold maxLen; omega) (by omega) (by have := hB4.size; simp; omega) ?_; intro v5 w5 hown5 hgrow5 hlie5; have hB5 := below_app (hB4.alloc hB4.size (.cells #[.int .u8 (x : Int)] 5)) (hown4.alloc _) (Nat.le_refl _) (by have := hB4.size; simp; omega) hgrow5; obtain ⟨A5, k5, rfl⟩ := own_slice hown5))
      rw [Nat.zero_add, List.nil_append] at hown5
      have hxx : (x : Int) = ((UInt8.ofNat x).toNat : Int) := by rw [UInt8.toNat_ofNat', Nat.mod_eq_of_lt hx]
      have hown6 := hown5
      rw [hxx, bvs_snoc] at hown6
      have e6 := (Bs.of_own hown6).2
      have hk6 := (own_cap hown6).1
      have pm := no_any w5 A5 (n1 + 1) k5 (X ++ [UInt8.ofNat x]) (by rw [List.length_append, hn1.out]; rfl) hk6 (by omega) e6 4 hgm.out
      clear e6 hown6 hown5 hown4 hgrow4 hgrow5 hlie4 hlie5 hxx cX
      replace hB := hB.below hB5
      replace hbel := hbel.trans (hB5.mono hbel.size)
      clear hB4 hB5
      go_wp2_with fail
      refine pm.mono ?_
      clear pm
      rintro _ w5b ⟨rfl, b5⟩
      replace hB := hB.below b5
      replace hbel := hbel.trans (b5.mono hbel.size)
      clear b5 hs1 hgp hgl hgm p1y hB0 hk6
      obtain ⟨⟨e, K, vb, sb, kj⟩, hG⟩ : ∃ R, getP l = R := ⟨_, rfl⟩
      go_wp2_with fail
      refine (get_any _ A n c l hn.out hlc (by omega) hB e K vb sb kj hG).mono ?_
      rintro _ w6 ⟨rfl, b6⟩
      replace hB := (hB.below b6).alloc (.cells #[.string ⟨K.toArray⟩, .int .u32 (vb : Int), .int .u64 (sb : Int), .int .u64 0, .int .u8 (kj : Int), .string ⟨#[]⟩] 29)
      replace b6 := hbel.trans (b6.mono hbel.size)
      have b7 := b6.alloc b6.size (.cells #[.string ⟨K.toArray⟩, .int .u32 (vb : Int), .int .u64 (sb : Int), .int .u64 0, .int .u8 (kj : Int), .string ⟨#[]⟩] 29)
      have k7 := Blk.new w6 29 #[.string ⟨K.toArray⟩, .int .u32 (vb : Int), .int .u64 (sb : Int), .int .u64 0, .int .u8 (kj : Int), .string ⟨#[]⟩]
      clear hbel
      by_cases he : e = 0
      · subst he
        obtain ⟨q1, q2, q3, q4, q5⟩ := getP_back l K vb sb kj hG
        replace hG := Lib.hid hG
        have cp := fun W => put_yes W ⟨K.toArray⟩ ⟨#[]⟩ vb sb 0 kj q3 q4 q5 q1
        rw [q2] at cp
        clear q1 q2 q3 q4 q5
        replace cp := Lib.hid cp
        have e7 := k7.cell
        go_wp2_with fail
        refine (cp.out _).mono ?_
        clear e7
        rintro _ w8 ⟨g8, n8, rfl, hn8, _, hs8, b8⟩
        have hnn : n8 = n := hn8.trans hn.out
        clear hn8
        subst hnn
        replace hB := hB.below b8
        replace b8 := b7.trans (b8.mono b7.size)
        go_wp2_with fail
        refine (sameBytes_yes w8 _ A n8 _ c l hn.out (by omega) hs8 hB).mono ?_
        rintro _ w9 ⟨rfl, b9⟩
        replace b9 := b8.trans (b9.mono b8.size)
        go_wp2_with fail
        refine (lives_any _).mono ?_
        rintro _ w10 ⟨rfl, b10⟩
        go_wp2
        go_ret
        exact ⟨rfl, b9.trans (b10.mono b9.size)⟩
      · obtain ⟨he45, rfl, rfl, rfl, rfl⟩ := getP_err l e vb sb kj K hG he
        have hnm : n ≤ 1000000 := by omega
        have pn := fun W (h : Bs W A l) => no_any W A n c l hn.out hlc hnm h e hG
        have d3 : ((e : Int) == 0) = false := by simpa using he
        have d4 : ((e : Int) != 0) = true := by simpa using he
        replace hG := Lib.hid hG
        replace pn := Lib.hid pn
        replace he45 := Lib.hid he45
        replace he := Lib.hid he
        go_wp2_with fail
        refine (pn.out _ hB).mono ?_
        rintro _ w8 ⟨rfl, b8⟩
        replace b8 := b7.trans (b8.mono b7.size)
        clear d3 d4
        rcases he45.out with rfl | rfl
        all_goals
          go_wp2_with fail
          refine (lives_any _).mono ?_
          rintro _ w9 ⟨rfl, b9⟩
          go_wp2
          go_ret
          exact ⟨rfl, b8.trans (b9.mono b8.size)⟩

/-! ### from the walk to the statement (by tail.py) -/
set_option maxRecDepth 100000 in
theorem lifted (os : Os) (started : os.Started) (H : Type) (enc : TypeId × Value → H) :
    ReturnsInHanded {} Try.checked os 4 .any (Rows.keysBackSpec.pre6 enc Try.prog Try.f4 Rows.keysBackRow.domain false) (Rows.keysBackSpec.post enc Try.prog Try.f4 false true false false) := by
  refine lifted_of (C := Try.checked) (tb := 4) (n := 3) (by kernel_rfl) started (by kernel_rfl) Try.func4 (by kernel_rfl) (by kernel_rfl) rfl (by kernel_rfl) Try.underlying4 (by kernel_rfl)
    (fun ds hd => by match ds, hd with | [d1, d2, d3], _ => exact ⟨rfl, rfl, rfl⟩)
    (ChangeSpec.witness6 (enc := enc) (C := Try.checked) false ⟨#[], #[.agg #[.string ByteArray.empty, .int .u32 0, .int .u64 0, .int .u64 0, .int .u8 0, .string ByteArray.empty], .slice none 0 0, .int .u8 0], []⟩ 8 (by kernel_rfl) (by kernel_rfl) (by kernel_rfl) (by kernel_rfl)) ?_
  intro W base args ds before hval hA hsz
  rw [Try.params4] at hA hval hsz
  obtain ⟨v0, vs0, d0, ds0, p0, q0, rfl, rfl, rfl, h0, r0⟩ := trodAll_cons hA
  obtain ⟨v1, vs1, d1, ds1, p1, q1, rfl, rfl, rfl, h1, r1⟩ := trodAll_cons r0
  obtain ⟨v2, vs2, d2, ds2, p2, q2, rfl, rfl, rfl, h2, r2⟩ := trodAll_cons r1
  obtain ⟨rfl, rfl, rfl⟩ := trodAll_nil r2
  obtain ⟨k0, s0, va0, se0, li0, ki0, rfl, hva0, hse0, hli0, hki0⟩ := open_fact (hval 0 _ _ rfl rfl) h0
  obtain ⟨A1, c1, l1, rfl, hb1, hlc1, _, hcap1⟩ := open_bytes Try.underlying22 Try.underlying5 (by kernel_rfl) (by kernel_rfl) (hval 1 _ _ rfl rfl) h1
  have hc1 := hcap1 hsz 1 rfl rfl
  obtain ⟨x2, rfl, hx2⟩ := open_u8 Try.underlying5 (hval 2 _ _ rfl rfl) h2
  exact walk W k0 s0 va0 se0 li0 ki0 hva0 hse0 hli0 hki0 A1 c1 l1 (by have := reachBytes_lt; omega) hb1 hlc1 (by have := reachBytes_lt; omega) x2 hx2

theorem over : Rows.keysBackRow.holds Try.pinned (OpenSpec.ofChange Rows.keysBackSpec) :=
  OpenClaim.holds_of_wide 4 Try.f4 rfl rfl rfl rfl rfl rfl rfl ⟨rfl, rfl, rfl, rfl, rfl⟩ rfl rfl rfl rfl rfl (by kernel_rfl) Try.func4 (by kernel_rfl)
    (of_decide_eq_true (by kernel_rfl)) (by unfold Func.isWrapper; first | (rw [if_pos (by decide +kernel)]; kernel_rfl) | (rw [if_neg (by decide +kernel)]; exact ⟨rfl, rfl⟩))
    (fun os started H enc _ => lifted os started H enc)

theorem proved : Rows.KeysBackSaid := over
end Go.Proofs.Ytelppijpmjoblaa.lawKeysBack
