/- The walk of the statements' lives of layer 08. -/
import Derived.Test.YtidnhcningkcaaaDoorSkTop
import Derived.Lib.SlBytesConst
set_option linter.unusedSimpArgs false
set_option linter.unusedVariables false
namespace Go.Proofs.YtidnhcningkcaaaDoor
open Go Go.RowKit Herb
set_option maxRecDepth 100000 in
set_option maxHeartbeats 3200000 in
theorem lives_any (w : World) : Calls Tryd.prog 4 #[] w fun e w' => e = .returned (.bool true) ∧ Below w.heap.size w w' := by
  have f1 : fromM [([97], 2), ([97, 98], 3), ([98], 1)] [97, 0] = [([97, 98], 3), ([98], 1)] := by decide
  have f2 : fromM [([97], 2), ([97, 98], 3), ([98], 1)] [99] = [] := by decide
  replace f1 := Lib.hid f1
  replace f2 := Lib.hid f2
  have kc := fun (w : World) (C : Array Value) (n c : Nat) => Lib.run_convert_bytes_const (P := Tryd.prog) w 23 5 C n c Tryd.underlying23 Tryd.underlying5
  go_enter Tryd.func4, Tryd.ntmps4
  go_wp2_with fail
  refine (newL w).mono ?_
  rintro _ w0 ⟨p, g0, rfl, sk0, b0⟩
  have h0 := Bs.new w0 5 [98] (1, 2)
  have sk0' := sk0.below ((Below.refl w0.heap.size w0).alloc (Nat.le_refl _) (.cells (bvs [98]).toArray 5 (1, 2)))
  have b0' := b0.alloc b0.size (.cells (bvs [98]).toArray 5 (1, 2))
  have pc := putL_new _ _ p _ _ sk0' (by decide) [98] _ 1 1 rfl (by omega) h0 1 1 (by omega) (by omega) (by decide)
  rw [show insM [] [98] 1 = [([98], 1)] by decide] at pc
  go_wp2_with fail
  refine pc.mono ?_
  clear pc
  rintro _ w1 ⟨g1, rfl, sk1, kb, _⟩
  have b1 := b0'.trans (kb.below b0'.size (fun k e => by have := sk0'.lt; omega))
  clear kb h0 sk0 sk0' b0 b0'
  have h1 := Bs.new w1 5 [97] (1, 2)
  have sk1' := sk1.below ((Below.refl w1.heap.size w1).alloc (Nat.le_refl _) (.cells (bvs [97]).toArray 5 (1, 2)))
  have b1' := b1.alloc b1.size (.cells (bvs [97]).toArray 5 (1, 2))
  have pc := putL_new _ _ p _ _ sk1' (by decide) [97] _ 1 1 rfl (by omega) h1 2 8 (by omega) (by omega) (by decide)
  rw [show insM [([98], 1)] [97] 2 = [([97], 2), ([98], 1)] by decide] at pc
  go_wp2_with fail
  refine pc.mono ?_
  clear pc
  rintro _ w2 ⟨g2, rfl, sk2, kb, _⟩
  have b2 := b1'.trans (kb.below b1'.size (fun k e => by have := sk1'.lt; omega))
  clear kb h1 sk1 sk1' b1 b1'
  have h2 := Bs.new w2 5 [97, 98] (2, 3)
  have sk2' := sk2.below ((Below.refl w2.heap.size w2).alloc (Nat.le_refl _) (.cells (bvs [97, 98]).toArray 5 (2, 3)))
  have b2' := b2.alloc b2.size (.cells (bvs [97, 98]).toArray 5 (2, 3))
  have pc := putL_new _ _ p _ _ sk2' (by decide) [97, 98] _ 2 2 rfl (by omega) h2 3 2 (by omega) (by omega) (by decide)
  rw [show insM [([97], 2), ([98], 1)] [97, 98] 3 = [([97], 2), ([97, 98], 3), ([98], 1)] by decide] at pc
  go_wp2_with fail
  refine pc.mono ?_
  clear pc
  rintro _ w3 ⟨g3, rfl, sk3, kb, _⟩
  have b3 := b2'.trans (kb.below b2'.size (fun k e => by have := sk2'.lt; omega))
  clear kb h2 sk2 sk2' b2 b2'
  have h3 := Bs.new w3 5 [97] (1, 2)
  have sk3' := sk3.below ((Below.refl w3.heap.size w3).alloc (Nat.le_refl _) (.cells (bvs [97]).toArray 5 (1, 2)))
  have b3' := b3.alloc b3.size (.cells (bvs [97]).toArray 5 (1, 2))
  have pc := putL_there _ _ p _ _ sk3' (by decide) [97] _ 1 1 rfl h3 9 1 (by omega) (by omega) (by decide)
  go_wp2_with fail
  refine pc.mono ?_
  clear pc
  rintro _ w4 ⟨rfl, kb⟩
  have sk4 := sk3'.below kb
  have b4 := b3'.trans (kb.mono b3'.size)
  clear kb h3 sk3 sk3' b3 b3'
  have h4 := Bs.new w4 5 [99] (1, 2)
  have sk4' := sk4.below ((Below.refl w4.heap.size w4).alloc (Nat.le_refl _) (.cells (bvs [99]).toArray 5 (1, 2)))
  have b4' := b4.alloc b4.size (.cells (bvs [99]).toArray 5 (1, 2))
  have pc := putL_bad _ _ p _ _ sk4' (some ⟨w4.heap.size, 0, none⟩) 1 1 9 0 (by omega)
  go_wp2_with fail
  refine pc.mono ?_
  clear pc
  rintro _ w5 ⟨rfl, hw5⟩
  rw [hw5] at sk4' b4'
  have sk5 := sk4'
  have b5 := b4'
  clear hw5 h4 sk4 sk4' b4 b4'
  have h5 := Bs.new w5 5 [99] (1, 2)
  have sk5' := sk5.below ((Below.refl w5.heap.size w5).alloc (Nat.le_refl _) (.cells (bvs [99]).toArray 5 (1, 2)))
  have b5' := b5.alloc b5.size (.cells (bvs [99]).toArray 5 (1, 2))
  have pc := putL_bad _ _ p _ _ sk5' (some ⟨w5.heap.size, 0, none⟩) 1 1 9 9 (by omega)
  go_wp2_with fail
  refine pc.mono ?_
  clear pc
  rintro _ w6 ⟨rfl, hw6⟩
  rw [hw6] at sk5' b5'
  have sk6 := sk5'
  have b6 := b5'
  clear hw6 h5 sk5 sk5' b5 b5'
  go_wp2_with fail
  refine (lenL _ _ p _ _ sk6 (by decide) 3 rfl).mono ?_
  rintro _ _ ⟨rfl, rfl⟩
  go_wp2_with fail
  have pc := allL _ _ p _ _ sk6 (by decide) ⟨#[]⟩ [] rfl (by decide)
  rw [fromM_nil] at pc
  refine pc.mono ?_
  clear pc
  rintro _ v1 ⟨A1, n1, c1, rfl, hn1, _, _, r1, kb⟩
  obtain rfl : 3 = n1 := hn1
  have sk7 := sk6.below kb
  have b7 := b6.trans (kb.mono b6.size)
  have kr := (Blk.new v1 42 #[.string ⟨#[97]⟩, .int .i64 2, .string ⟨#[97, 98]⟩, .int .i64 3, .string ⟨#[98]⟩, .int .i64 1])
  have r2 : Rd (v1.alloc (.cells #[.string ⟨#[97]⟩, .int .i64 2, .string ⟨#[97, 98]⟩, .int .i64 3, .string ⟨#[98]⟩, .int .i64 1] 42)) 2 (some ⟨v1.heap.size, 0, none⟩) 3 (pairsC [([97], 2), ([97, 98], 3), ([98], 1)]) := kr.rd rfl (fun j u hu => by simpa [pairsC, pairC] using hu)
  have ps := same_yes _ A1 _ 3 c1 3 [([97], 2), ([97, 98], 3), ([98], 1)] rfl (by omega) (r1.alloc _) r2
  have sk8 := sk7.below ((Below.refl v1.heap.size v1).alloc (Nat.le_refl _) (.cells #[.string ⟨#[97]⟩, .int .i64 2, .string ⟨#[97, 98]⟩, .int .i64 3, .string ⟨#[98]⟩, .int .i64 1] 42))
  have b8 := b7.alloc b7.size (.cells #[.string ⟨#[97]⟩, .int .i64 2, .string ⟨#[97, 98]⟩, .int .i64 3, .string ⟨#[98]⟩, .int .i64 1] 42)
  clear kr r1 r2 sk6 sk7 b6 b7 kb
  go_wp2_with fail
  refine ps.mono ?_
  clear ps
  rintro _ v2 ⟨rfl, kb⟩
  have sk9 := sk8.below kb
  have b9 := b8.trans (kb.mono b8.size)
  clear sk8 b8 kb
  have pc := allL _ _ p _ _ sk9 (by decide) ⟨#[97, 0]⟩ [97, 0] rfl (by decide)
  rw [f1.out] at pc
  go_wp2_with fail
  refine pc.mono ?_
  clear pc
  rintro _ v3 ⟨A3, n3, c3, rfl, hn3, _, _, r3, kb⟩
  obtain rfl : 2 = n3 := hn3
  have sk10 := sk9.below kb
  have b10 := b9.trans (kb.mono b9.size)
  have kr := (Blk.new v3 42 #[.string ⟨#[97, 98]⟩, .int .i64 3, .string ⟨#[98]⟩, .int .i64 1])
  have r4 : Rd (v3.alloc (.cells #[.string ⟨#[97, 98]⟩, .int .i64 3, .string ⟨#[98]⟩, .int .i64 1] 42)) 2 (some ⟨v3.heap.size, 0, none⟩) 2 (pairsC [([97, 98], 3), ([98], 1)]) := kr.rd rfl (fun j u hu => by simpa [pairsC, pairC] using hu)
  have ps := same_yes _ A3 _ 2 c3 2 [([97, 98], 3), ([98], 1)] rfl (by omega) (r3.alloc _) r4
  have sk11 := sk10.below ((Below.refl v3.heap.size v3).alloc (Nat.le_refl _) (.cells #[.string ⟨#[97, 98]⟩, .int .i64 3, .string ⟨#[98]⟩, .int .i64 1] 42))
  have b11 := b10.alloc b10.size (.cells #[.string ⟨#[97, 98]⟩, .int .i64 3, .string ⟨#[98]⟩, .int .i64 1] 42)
  clear kr r3 r4 sk9 sk10 b9 b10 kb
  go_wp2_with fail
  refine ps.mono ?_
  clear ps
  rintro _ v4 ⟨rfl, kb⟩
  have sk12 := sk11.below kb
  have b12 := b11.trans (kb.mono b11.size)
  clear sk11 b11 kb
  have pc := allL _ _ p _ _ sk12 (by decide) ⟨#[99]⟩ [99] rfl (by decide)
  rw [f2.out] at pc
  go_wp2_with fail
  refine pc.mono ?_
  clear pc
  rintro _ v5 ⟨A5, n5, c5, rfl, hn5, _, _, r5, kb⟩
  obtain rfl : 0 = n5 := hn5
  have b13 := b12.trans (kb.mono b12.size)
  go_wp2
  go_ret
  exact ⟨rfl, b13⟩
end Go.Proofs.YtidnhcningkcaaaDoor
