/- Walk of laid: records one behind the other, behind some bytes. -/
import Derived.Test.YtnjihcjijicgpaaFrLives
set_option linter.unusedSimpArgs false
set_option linter.unusedVariables false
namespace Herb
open Go Go.RowKit
/-- A record in memory. -/
structure Rw where
  A : Option Addr
  c : Nat
  t : List UInt8
def Rw.v (y : Rw) : Value := .slice y.A y.t.length y.c
def rwsC (rs : List Rw) : List Value := rs.map Rw.v
theorem rwsC_get {rs : List Rw} {k : Nat} (h : k < rs.length) : (rwsC rs)[k]? = some (rs[k]).v := by simp [rwsC, h]
namespace Fr
/-- Records behind some bytes; where each ends. -/
def laidL (a : List UInt8) (rs : List (List UInt8)) : List UInt8 := rs.foldl (fun b r => b ++ put b.length r) a
theorem laidL_snoc (a : List UInt8) (rs : List (List UInt8)) (r : List UInt8) : laidL a (rs ++ [r]) = laidL a rs ++ put (laidL a rs).length r := by simp [laidL, List.foldl_append]
def endsK (a : List UInt8) (rs : List (List UInt8)) (k : Nat) : List Nat := (List.range k).map (fun i => (laidL a (rs.take (i + 1))).length)
theorem endsK_succ (a : List UInt8) (rs : List (List UInt8)) (k : Nat) : endsK a rs (k + 1) = endsK a rs k ++ [(laidL a (rs.take (k + 1))).length] := by simp [endsK, List.range_succ]
/-- How much is laid, at most. -/
def bulk (a : List UInt8) (rs : List (List UInt8)) : Nat := a.length + (rs.map (fun r => r.length + 10)).sum
theorem bulk_snoc (a : List UInt8) (rs : List (List UInt8)) (r : List UInt8) : bulk a (rs ++ [r]) = bulk a rs + (r.length + 10) := by simp [bulk]; omega
theorem bulk_take (a : List UInt8) (rs : List (List UInt8)) (k : Nat) : bulk a (rs.take k) ≤ bulk a rs := by
  have h : (rs.map (fun r => r.length + 10)).sum = ((rs.take k).map (fun r => r.length + 10)).sum + ((rs.drop k).map (fun r => r.length + 10)).sum := by
    rw [← List.sum_append, ← List.map_append, List.take_append_drop]
  unfold bulk
  omega
theorem take_snoc (rs : List (List UInt8)) (k : Nat) (h : k < rs.length) : rs.take (k + 1) = rs.take k ++ [rs[k]] := List.take_succ_eq_append_getElem h
theorem laidL_le' (rs : List (List UInt8)) : ∀ a : List UInt8, (laidL a rs).length ≤ a.length + 26 * (rs.map (fun r => r.length + 10)).sum := by
  induction rs with
  | nil => intro a; simp [laidL]
  | cons r rs ih =>
    intro a
    have h := ih (a ++ put a.length r)
    have h2 := put_length_le a.length r
    have e : laidL a (r :: rs) = laidL (a ++ put a.length r) rs := rfl
    rw [e]
    rw [List.length_append] at h
    simp only [List.map_cons, List.sum_cons]
    omega
theorem laidL_le (a : List UInt8) (rs : List (List UInt8)) : (laidL a rs).length ≤ 26 * bulk a rs := by
  have := laidL_le' rs a
  unfold bulk
  omega
end Fr
theorem own_ne {w : World} {base base' n n' size size' : Nat} {e e' : TypeId} {v v' : Value} {xs xs' : List Value} (h : w.ownsRow base e size v n xs) (h' : w.ownsRow base' e' size' v' n' xs') (hne : e ≠ e') : v.ownBlock = none ∨ v.ownBlock ≠ v'.ownBlock := by
  rcases h.2 with ⟨rfl, _⟩ | ⟨g, cap, cur, rfl, _, hg, _⟩
  · exact .inl rfl
  · refine .inr ?_
    rcases h'.2 with ⟨rfl, _⟩ | ⟨g', cap', cur', rfl, _, hg', _⟩
    · simp [Value.ownBlock]
    · simp only [Value.ownBlock, ne_eq, Option.some.injEq]
      rintro rfl
      rw [hg] at hg'
      injection hg' with hg'
      injection hg' with _ ht
      exact hne ht
def nvs (l : List Nat) : List Value := l.map (fun k : Nat => Value.int .i64 (k : Int))
theorem nvs_snoc (l : List Nat) (k : Nat) : nvs l ++ [Value.int .i64 (k : Int)] = nvs (l ++ [k]) := by simp [nvs]
theorem nvs_one (l : List Nat) : ∀ u ∈ nvs l, u.oneCell' = true := by
  intro u hu
  simp only [nvs, List.mem_map] at hu
  obtain ⟨c, _, rfl⟩ := hu
  rfl
end Herb
namespace Go.Proofs.Ytnjihcjijicgpaa
open Go Go.RowKit Herb
theorem info_int : (Try.prog.info? 3).map (fun i => (i.zero, i.size, i.bytes)) = some (some (.int .i64 0), 1, 8) := by kernel_rfl

set_option maxRecDepth 100000 in
set_option maxHeartbeats 3200000 in
theorem laid_any (w : World) (A : Option Addr) (n c : Nat) (l : List UInt8) (hl : l.length = n) (hb : Bs w A l) (B : Option Addr) (m d : Nat) (rs : List Rw) (hm : rs.length = m) (hrd : Rd w 1 B m (rwsC rs))
    (hrs : ∀ y ∈ rs, Bs w y.A y.t ∧ y.t.length ≤ y.c) (hbk : Fr.bulk l (rs.map Rw.t) ≤ 20010) :
    Calls Try.prog 9 #[.slice A n c, .slice B m d] w fun e w' => ∃ vb ve k, e = .returned (.tuple #[vb, ve, .bool true]) ∧ (Fr.laidL l (rs.map Rw.t)).length = k ∧ w'.ownsRow w.heap.size 5 1 vb k (bvs (Fr.laidL l (rs.map Rw.t)))
      ∧ w'.ownsRow w.heap.size 3 1 ve m (nvs (Fr.endsK l (rs.map Rw.t) m)) ∧ Below w.heap.size w w' := by
  have hn : n ≤ 20010 := by rw [← hl]; unfold Fr.bulk at hbk; omega
  have hm2 : m ≤ 2001 := by
    have h : (rs.map Rw.t).length * 10 ≤ ((rs.map Rw.t).map (fun r => r.length + 10)).sum := by
      generalize rs.map Rw.t = q
      induction q with
      | nil => simp
      | cons a q ih => simp at ih ⊢; omega
    rw [List.length_map, hm] at h
    unfold Fr.bulk at hbk
    omega
  have one0 := bvs_one l
  have hrd0 : Rd w 1 A n (bvs l) := by
    unfold Bs at hb
    rw [hl] at hb
    exact hb
  replace hl := Lib.hid hl
  replace hm := Lib.hid hm
  replace hrs := Lib.hid hrs
  replace hbk := Lib.hid hbk
  replace one0 := Lib.hid one0
  go_enter Try.func9, Try.ntmps9
  go_wp2_with (first | (at_builtin; refine wpList_app w rfl (.const (.slice none 0 0)) (.tmp 12) rfl Try.underlying22 info_u8 rfl (by omega) (World.ownsRow_nil w w.heap.size _ _) rfl A n c hrd0 rfl one0.out (by unfold maxLen; omega) (by omega) (Nat.le_refl _) ?_; intro v1 w1 hown1 hgrow1 _) | fail)
  have b1 : Below w.heap.size w w1 := (Below.refl _ _).grown hgrow1 (Nat.le_refl _) (fun j hj => by simp [Value.ownBlock] at hj)
  rw [Nat.zero_add, List.nil_append] at hown1
  clear hgrow1 hb
  go_loopw [7, 8, 9] (fun vb ve i wr => ∃ k nb : Nat, k ≤ m ∧ i = .int .i64 (k : Int) ∧ (Fr.laidL l ((rs.map Rw.t).take k)).length = nb ∧ wr.ownsRow w.heap.size 5 1 vb nb (bvs (Fr.laidL l ((rs.map Rw.t).take k)))
      ∧ wr.ownsRow w.heap.size 3 1 ve k (nvs (Fr.endsK l (rs.map Rw.t) k)) ∧ Below w.heap.size w wr) (fun _ _ i _ => m - (intOf i).toNat)
  case atStart => exact ⟨0, n, by omega, rfl, hl.out, hown1, World.ownsRow_nil _ _ _ _, b1⟩
  case round =>
    clear hown1 b1 hrd0 one0
    obtain ⟨k, nb, hk, rfl, hnb, hown, hownE, hB⟩ := hrel
    have hnb2 : nb ≤ 26 * 20010 := by
      have h1 := Fr.laidL_le l ((rs.map Rw.t).take k)
      have h2 := Fr.bulk_take l (rs.map Rw.t) k
      have := hbk.out
      rw [hnb] at h1
      omega
    replace hnb := Lib.hid hnb
    obtain ⟨Ab, cb, rfl⟩ := own_slice hown
    obtain ⟨Ae, ce, rfl⟩ := own_slice hownE
    by_cases hlt : k < m
    · obtain ⟨b, off, rfl, _, hc⟩ := (hrd.below hB).at_ hlt
      have hkl : k < rs.length := by rw [hm.out]; exact hlt
      have hc0 := hc _ _ (rwsC_get hkl)
      have hy := hrs.out _ (List.getElem_mem hkl)
      obtain ⟨y, hye⟩ : ∃ y, rs[k] = y := ⟨_, rfl⟩
      have hts : (rs.map Rw.t).take (k + 1) = (rs.map Rw.t).take k ++ [y.t] := by
        rw [Fr.take_snoc _ _ (by simpa using hkl), List.getElem_map, hye]
      rw [hye] at hc0 hy
      obtain ⟨yA, yc, yt⟩ := y
      obtain ⟨hyb, hyc⟩ := hy
      simp only at hyb hyc hts
      obtain ⟨q, hq⟩ : ∃ q, yt.length = q := ⟨_, rfl⟩
      have hc1 : wr.cell? ⟨b, off + k, none⟩ = some (.slice yA q yc) := by rw [← hq]; exact hc0
      rw [hq] at hyc
      have hq2 : q ≤ 20010 := by
        have h2 := Fr.bulk_take l (rs.map Rw.t) (k + 1)
        have := hbk.out
        rw [hts, Fr.bulk_snoc, hq] at h2
        omega
      have pp := put_any wr nb (by omega) yA q yc yt hq (by omega) hyc (hyb.below hB)
      have hple := Fr.put_length_le nb yt
      have hls : Fr.laidL l ((rs.map Rw.t).take (k + 1)) = Fr.laidL l ((rs.map Rw.t).take k) ++ Fr.put nb yt := by rw [hts, Fr.laidL_snoc, hnb.out]
      have hes := Fr.endsK_succ l (rs.map Rw.t) k
      rw [hq] at hple
      replace pp := Lib.hid pp
      replace hls := Lib.hid hls
      replace hes := Lib.hid hes
      clear hc hc0 hts hye hq hyb
      go_wp2_with fail
      refine pp.out.mono ?_
      rintro _ w2 ⟨g2, k2, cp2, rfl, hk2, hown2, b2⟩
      have hk2b : k2 ≤ 20 * q + 26 := by rw [← hk2]; exact hple
      have hb2 : Rd w2 1 (some ⟨g2, 0, none⟩) k2 (bvs (Fr.put nb yt)) := Rd.of_own hown2
      have hownB2 := own_below hown b2
      have hownE2 := own_below hownE b2
      have hB2 := hB.trans (b2.mono hB.size)
      have one2 := bvs_one (Fr.put nb yt)
      replace one2 := Lib.hid one2
      replace hk2 := Lib.hid hk2
      clear hown2 hown hownE pp
      go_wp2_with (first
        | (at_builtin; refine wpList_app w2 rfl (.tmp 32) (.tmp 33) rfl Try.underlying22 info_u8 rfl (by omega) hownB2 rfl _ k2 k2 hb2 rfl one2.out (by unfold maxLen; omega) (by omega) hB2.size ?_; intro v3 w3 hown3 hgrow3 _; obtain ⟨A3, c3, rfl⟩ := own_slice hown3; have hownE3 := hownE2.kept hgrow3 (own_ne hownE2 hownB2 (by decide)); have hB3 := below_app hB2 hownB2 (Nat.le_refl _) hB2.size hgrow3)
        | (at_builtin; refine wpList_app _ rfl (.tmp 35) (.tmp 38) rfl Try.underlying27 info_int rfl (by omega) (hownE3.alloc _) rfl _ 1 1 (Rd.one w3 3 (.int .i64 ((nb : Int) + (k2 : Int)))) rfl (oneCell_one rfl) (by unfold maxLen; omega) (by omega) (by have := hB3.size; simp; omega) ?_; intro v4 w4 hown4 hgrow4 _; obtain ⟨A4, c4, rfl⟩ := own_slice hown4)
        | fail)
      have hownB4 := (hown3.alloc (.cells #[.int .i64 ((nb : Int) + (k2 : Int))] 3)).kept hgrow4 (own_ne hown3 hownE3 (by decide))
      have hB4 := below_app (hB3.alloc hB3.size (.cells #[.int .i64 ((nb : Int) + (k2 : Int))] 3)) (hownE3.alloc _) (Nat.le_refl _) (by have := hB3.size; simp; omega) hgrow4
      rw [← bvs_append, ← hls.out] at hownB4
      have hlen : (Fr.laidL l ((rs.map Rw.t).take (k + 1))).length = nb + k2 := by rw [hls.out, List.length_append, hnb.out, hk2.out]
      have e1 : (nb : Int) + (k2 : Int) = ((nb + k2 : Nat) : Int) := by omega
      rw [e1, nvs_snoc, ← hlen, ← hes.out] at hown4
      clear hown3 hgrow4 hB3 hownE3 hgrow3 hownB2 hownE2 hb2
      go_wp2
      go_roundw
      case rel => exact ⟨k + 1, nb + k2, by omega, by go_num, hlen, hownB4, hown4, hB4⟩
      case measure => simp [intOf]; omega
    · obtain rfl : k = m := by omega
      have hte : (rs.map Rw.t).take k = rs.map Rw.t := List.take_of_length_le (by rw [List.length_map, hm.out]; omega)
      rw [hte] at hown
      have hnb' : (Fr.laidL l (rs.map Rw.t)).length = nb := by rw [← hte]; exact hnb.out
      replace hnb' := Lib.hid hnb'
      clear hte
      go_wp2
      go_ret3
      exact ⟨_, _, nb, rfl, hnb'.out, hown, hownE, hB⟩
end Go.Proofs.Ytnjihcjijicgpaa
