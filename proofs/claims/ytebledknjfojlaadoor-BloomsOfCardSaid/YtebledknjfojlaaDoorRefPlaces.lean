/- The walk of the document's Places. -/
import Derived.Test.YtebledknjfojlaaDoorPlaces
import Derived.Test.YtebledknjfojlaaDoorApp
set_option linter.unusedSimpArgs false
set_option linter.unusedVariables false
namespace Herb
open Go
/-- Whole numbers as cells. -/
def nvs (l : List Nat) : List Value := l.map fun (x : Nat) => .int .i64 (x : Int)
theorem nvs_snoc (l : List Nat) (x : Nat) : nvs l ++ [Value.int .i64 (x : Int)] = nvs (l ++ [x]) := by simp [nvs]
/-- One round of the document's loop: what is below nothing comes to be within. -/
theorem lift_round (a : Int) (m : Nat) (hm : 0 < m) (ha : a < 0) (hb : a.natAbs ≤ 47775015) (hm2 : m < 1000000000000) :
    ∃ t z : Int, a.tdiv m = t ∧ (m : Int) * (1 - t) = z ∧ 0 ≤ a + z ∧ (a + z) % (m : Int) = a % (m : Int) ∧ a + z ≤ m ∧ -47775015 ≤ t ∧ t ≤ 0 ∧ 0 ≤ z ∧ z ≤ 2000000000000 := by
  obtain ⟨n, rfl⟩ : ∃ n : Nat, a = -(n : Int) := ⟨a.natAbs, by omega⟩
  have hdm := Nat.div_add_mod n m
  have hml := Nat.mod_lt n hm
  have hd : n / m ≤ n := Nat.div_le_self _ _
  obtain ⟨q, hq⟩ : ∃ q, n / m = q := ⟨_, rfl⟩
  rw [hq] at hdm hd
  obtain ⟨p, hp⟩ : ∃ p, m * q = p := ⟨_, rfl⟩
  rw [hp] at hdm
  have e1 : (-(n : Int)).tdiv m = -(q : Int) := by
    rw [Int.neg_tdiv, Int.tdiv_eq_ediv_of_nonneg (by omega), ← hq]
    rfl
  have e2 : (m : Int) * (1 - -(q : Int)) = (m : Int) + (p : Int) := by
    rw [← hp, Int.mul_sub, Int.mul_neg]
    simp
  refine ⟨_, _, e1, e2, by omega, ?_, by omega, by omega, by omega, by omega, by omega⟩
  have : -(n : Int) + ((m : Int) + (p : Int)) = -(n : Int) + (m : Int) * (1 + (q : Int)) := by
    rw [Int.mul_add, ← hp]
    simp
  rw [this, Int.add_mul_emod_self_left]
end Herb
namespace Go.Proofs.YtebledknjfojlaaDoor
open Go Go.RowKit Herb
theorem info_int : (Tryd.prog.info? 3).map (fun i => (i.zero, i.size, i.bytes)) = some (some (.int .i64 0), 1, 8) := by kernel_rfl

set_option maxHeartbeats 1600000 in
theorem refPlaces_any (w : World) (m : Nat) (hm : 0 < m) (hm2 : m < 1000000000000) (key : ByteArray) (kl : List UInt8) (hkl : key.data.toList = kl) (kn : Nat) (hkn : key.size = kn) (hk : kn ≤ 140737488355328) :
    Calls Tryd.prog 17 #[.string key, .int .i64 (m : Int)] w fun e w' => ∃ v, e = .returned v ∧ w'.ownsRow w.heap.size 3 1 v 6 (nvs (places (more 0 kl) m)) ∧ Below w.heap.size w w' := by
  obtain ⟨s, hs⟩ : ∃ s, more 0 kl = s := ⟨_, rfl⟩
  have hsl : s < 4294967296 := by rw [← hs]; exact more_lt _ _
  obtain ⟨c, w1, hc, hconv, hb1, hbel1⟩ := bytes_of_str (P := Tryd.prog) w 9 26 5 key Tryd.underlying9 Tryd.underlying26 Tryd.underlying5 kl hkl kn hkn
  have hlen : kl.length = kn := by rw [← hkl, ← hkn]; rfl
  replace hkl := Lib.hid hkl
  have pr := refOf_any w1 (some ⟨w.heap.size, 0, none⟩) c kl (by omega) hb1
  rw [hs, hlen] at pr
  replace hlen := Lib.hid hlen
  replace hs := Lib.hid hs
  obtain ⟨x0, hx0⟩ : ∃ x0, s % 65536 = x0 := ⟨_, rfl⟩
  obtain ⟨y0, hy0⟩ : ∃ y0, s / 65536 = y0 := ⟨_, rfl⟩
  have hx0l : x0 ≤ 65535 := by omega
  have hy0l : y0 ≤ 65535 := by omega
  have hxi : (s : Int) % 65536 = (x0 : Int) := by omega
  have hyi : (s : Int) / 65536 = (y0 : Int) := by omega
  replace hx0 := Lib.hid hx0
  replace hy0 := Lib.hid hy0
  go_enter Tryd.func17, Tryd.ntmps17
  go_wp2_with fail
  refine pr.mono ?_
  clear pr
  rintro _ _ ⟨rfl, rfl⟩
  clear hconv
  go_wp2_with fail
  go_loopw [6, 7, 8, 9] (fun x y v i wr => ∃ k : Nat, k ≤ 6 ∧ i = .int .i64 (k : Int) ∧ x = .int .i64 (zk x0 y0 k).1 ∧ y = .int .i64 (zk x0 y0 k).2 ∧ wr.ownsRow w.heap.size 3 1 v k (nvs ((places s m).take k)) ∧ Below w.heap.size w wr) (fun _ _ _ i _ => 6 - (intOf i).toNat)
  case atStart => exact ⟨0, by omega, rfl, rfl, rfl, by simpa [nvs] using World.ownsRow_nil w1 w.heap.size 3 1, hbel1⟩
  case round =>
    obtain ⟨k, hk6, rfl, rfl, rfl, hown, hbel⟩ := hrel
    by_cases hlt : k < 6
    · obtain ⟨hu, hv⟩ := zk_small x0 y0 (by omega) (by omega) (k := k) (by omega)
      have hpl : ((zk x0 y0 k).1 % (m : Int)).toNat = place s m k := by unfold place; rw [hx0.out, hy0.out]
      have hplt := place_lt s m k hm
      have hstep : zk x0 y0 (k + 1) = (2 * (zk x0 y0 k).1 - (zk x0 y0 k).2, (zk x0 y0 k).1 + 2 * (zk x0 y0 k).2) := rfl
      generalize (zk x0 y0 k).1 = u at *
      generalize (zk x0 y0 k).2 = v at *
      replace hstep := Lib.hid hstep
      replace hpl := Lib.hid hpl
      go_wp2_with fail
      go_loop [10] (fun a => ∃ r : Int, a = .int .i64 r ∧ r % (m : Int) = u % (m : Int) ∧ (r = u ∨ (0 ≤ r ∧ r ≤ m))) (fun a => if intOf a < 0 then 1 else 0)
      case atStart => exact ⟨u, rfl, rfl, .inl rfl⟩
      case round =>
        obtain ⟨r, rfl, hr1, hr2⟩ := hrel
        by_cases hneg : r < 0
        · obtain rfl : r = u := by omega
          obtain ⟨t, z, ht, hz, h1, h2, h3, h4, h5, h6, h7⟩ := lift_round r m hm hneg hu hm2
          replace hr1 := Lib.hid hr1
          replace h2 := Lib.hid h2
          go_wp2
          go_round
          case rel => exact ⟨r + z, by go_num, h2.out, .inr ⟨h1, h3⟩⟩
          case measure => simp [intOf, hneg, show ¬ (r + z < 0) by omega]
        · have htm : r.tmod (m : Int) = (place s m k : Int) := by
            rw [Int.tmod_eq_emod_of_nonneg (by omega), hr1, ← hpl.out]
            have := Int.emod_nonneg u (show (m : Int) ≠ 0 by omega)
            omega
          have hrb : r.natAbs ≤ 1000000000000 := by omega
          replace hr1 := Lib.hid hr1
          clear hr2
          have htake : nvs ((places s m).take (k + 1)) = nvs ((places s m).take k) ++ [Value.int .i64 (place s m k : Int)] := by
            rw [nvs_snoc]
            congr 1
            rw [List.take_succ_eq_append_getElem (by simp [places]; exact hlt)]
            simp [places]
          replace htake := Lib.hid htake
          generalize place s m k = p at *
          go_wp2_with (at_builtin; refine wpList_app _ rfl _ _ rfl Tryd.underlying39 info_int rfl (by omega) (hown.alloc (.cells #[.int .i64 (p : Int)] 3)) rfl _ 1 1 (Rd.one wr 3 (.int .i64 (p : Int))) rfl (oneCell_one rfl) (by unfold maxLen; omega) (by omega) (by have := hbel.size; simp; omega) ?_; intro v2 w2 hown2 hgrow2 hlie2)
          have hb2 := below_app (hbel.alloc hbel.size (.cells #[.int .i64 (p : Int)] 3)) (hown.alloc _) (Nat.le_refl _) (by have := hbel.size; simp; omega) hgrow2
          rw [← htake.out] at hown2
          clear hown hgrow2 hlie2
          go_wp2
          go_roundw
          case rel => exact ⟨_, _, _, _, ⟨k + 1, by omega, rfl, by rw [hstep.out], by rw [hstep.out], hown2, hb2⟩, rfl, rfl, rfl, by go_num⟩
          case measure => simp [intOf]; omega
    · obtain rfl : k = 6 := by omega
      rw [List.take_of_length_le (by simp [places])] at hown
      go_wp2
      go_ret
      exact ⟨_, rfl, by rw [hs.out]; exact hown, hbel⟩
end Go.Proofs.YtebledknjfojlaaDoor
