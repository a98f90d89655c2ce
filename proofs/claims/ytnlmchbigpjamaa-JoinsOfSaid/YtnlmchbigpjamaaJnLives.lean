/- The walks of the statements' letters and lives. -/
import Derived.Test.YtnlmchbigpjamaaJnMany
import Derived.Test.YtnlmchbigpjamaaJnSame
set_option linter.unusedSimpArgs false
set_option linter.unusedVariables false
namespace Go.Proofs.Ytnlmchbigpjamaa
open Go Go.RowKit Go.Shelf Herb Herb.Jn
namespace Jl
theorem run_cut_str {P : Program} {t : TypeId} (ht : P.underlying t = some .string) (s : ByteArray) (k m : Nat) (hk : k ≤ m) (hm : m ≤ s.size) (a b : Int) (ha : a = (k : Int)) (hb : b = (m : Int)) (W : World) :
    (Instr.slice t (.string s) (some (.int .i64 a)) (some (.int .i64 b)) none).run P W = .ok (.string (s.extract k m)) W := by
  subst ha
  subst hb
  have h1 : max (m : Int) 0 = (m : Int) := by omega
  unfold Instr.slice
  simp [run_underlying ht, Instr.sliceBounds, Instr.sliceBound, asIntOf, hk, hm, h1]
end Jl
def ltr (s : ByteArray) (i : Nat) : Ft := ⟨s.extract i (i + 1), 0, 1, 0, 0, ⟨#[]⟩⟩
def ltrs (s : ByteArray) : List Ft := (List.range s.size).map (ltr s)
theorem ltrs_snoc (s : ByteArray) (k : Nat) : (List.range (k + 1)).map (ltr s) = (List.range k).map (ltr s) ++ [ltr s k] := by
  rw [List.range_succ, List.map_append]; rfl
set_option maxRecDepth 100000 in
set_option maxHeartbeats 1600000 in
theorem letters_any (w : World) (s : ByteArray) (n : Nat) (hn : s.size = n) (hn2 : n ≤ 1000) :
    Calls Try.prog 18 #[.string s] w fun e w' => ∃ A' c', e = .returned (.slice A' n c') ∧ w'.ownsRow w.heap.size 44 6 (.slice A' n c') n (ftC (ltrs s)) ∧ Below w.heap.size w w' := by
  have hlt0 : ltrs s = (List.range n).map (ltr s) := by unfold ltrs; rw [hn]
  rw [hlt0]
  replace hlt0 := Lib.hid hlt0
  go_enter Try.func18, Try.ntmps18
  go_wp2
  go_loopw [3, 4] (fun v i wr => ∃ k : Nat, k ≤ n ∧ i = .int .i64 (k : Int) ∧ wr.ownsRow w.heap.size 44 6 v k (ftC ((List.range k).map (ltr s))) ∧ Below w.heap.size w wr) (fun v i _ => n - (intOf i).toNat)
  case atStart => exact ⟨0, by omega, rfl, World.ownsRow_nil _ _ _ _, Below.refl _ _⟩
  case round =>
    obtain ⟨k, hk, rfl, hown, hB⟩ := hrel
    by_cases hlt : k < n
    · have hdk : decide (k < s.size) = true := by simp [hn]; omega
      have hsz := hB.size
      obtain ⟨sk, hsk⟩ : ∃ sk, s.extract k (k + 1) = sk := ⟨_, rfl⟩
      have hsn : ftC ((List.range k).map (ltr s)) ++ (Ft.cells ⟨sk, 0, 1, 0, 0, ⟨#[]⟩⟩) = ftC ((List.range (k + 1)).map (ltr s)) := by rw [ltrs_snoc, ftC_append, ← hsk]; simp [ftC, ltr]
      have hone : ∀ u ∈ Ft.cells ⟨sk, 0, 1, 0, 0, ⟨#[]⟩⟩, u.oneCell' = true := fun u hu => ftC_one [⟨sk, 0, 1, 0, 0, ⟨#[]⟩⟩] u (by simpa [ftC] using hu)
      have hal := hown.alloc (.cells #[.string sk, .int .u32 0, .int .u64 1, .int .u64 0, .int .u8 0, .string ⟨#[]⟩] 44)
      have bal := hB.alloc hsz (.cells #[.string sk, .int .u32 0, .int .u64 1, .int .u64 0, .int .u8 0, .string ⟨#[]⟩] 44)
      have rdo : Rd (wr.alloc (.cells #[.string sk, .int .u32 0, .int .u64 1, .int .u64 0, .int .u8 0, .string ⟨#[]⟩] 44)) 6 (some ⟨wr.heap.size, 0, none⟩) 1 (Ft.cells ⟨sk, 0, 1, 0, 0, ⟨#[]⟩⟩) := (Blk.new wr 44 _).rd rfl (fun j u hu => by simpa [Ft.cells] using hu)
      have sal : w.heap.size ≤ (wr.alloc (.cells #[.string sk, .int .u32 0, .int .u64 1, .int .u64 0, .int .u8 0, .string ⟨#[]⟩] 44)).heap.size := by simp; omega
      have hkn : (k : Int) + 1 ≤ (n : Int) := by omega
      have hkk : (0 : Int) ≤ (k : Int) ∧ (k : Int) < (n : Int) := by omega
      replace hsk := Lib.hid hsk
      replace hsn := Lib.hid hsn
      replace hone := Lib.hid hone
      replace hal := Lib.hid hal
      replace bal := Lib.hid bal
      replace rdo := Lib.hid rdo
      replace sal := Lib.hid sal
      have hcut := Jl.run_cut_str (P := Try.prog) Try.underlying9 s k (k + 1) (by omega) (by omega) (k : Int) ((k : Int) + 1) rfl (by omega) wr
      rw [hsk.out] at hcut
      go_wp2_with (at_builtin; refine wpList_app _ rfl (.tmp 11) (.tmp 18) rfl Try.underlying26 ftInfo rfl (by omega) hal.out rfl _ 1 1 rdo.out rfl hone.out (by unfold maxLen; omega) (by omega) sal.out ?_; intro v1 w2 hown1 hgrow1 _; have hB2 := below_app bal.out hal.out (Nat.le_refl _) sal.out hgrow1)
      go_roundw
      case rel => exact ⟨k + 1, by omega, by go_num, by rw [← hsn.out]; exact hown1, hB2⟩
      case measure => simp [intOf] <;> omega
    · obtain rfl : k = n := by omega
      have hdk : decide (k < s.size) = false := by simp [hn]
      obtain ⟨A', c', rfl⟩ := own_slice hown
      go_wp2
      go_ret
      exact ⟨A', c', rfl, hown, hB⟩
/-! ### the example -/
def L (a : UInt8) : Ft := ⟨⟨#[a]⟩, 0, 1, 0, 0, ⟨#[]⟩⟩
theorem l1 : ltrs ⟨#[97]⟩ = [L 97] := by kernel_rfl
theorem l2 : ltrs ⟨#[97, 99, 99]⟩ = [L 97, L 99, L 99] := by kernel_rfl
theorem l3 : ltrs ⟨#[98, 99, 100]⟩ = [L 98, L 99, L 100] := by kernel_rfl
theorem l4 : ltrs ⟨#[97, 98, 99, 100]⟩ = [L 97, L 98, L 99, L 100] := by kernel_rfl
theorem cmp_L (a b : UInt8) : cmpFt (L a) (L b) = cmpS ⟨#[a]⟩ ⟨#[b]⟩ := by
  unfold cmpFt cmpF L
  simp only [orL_cons, cmpI_eq]
  unfold orI orL
  split <;> simp_all
theorem m2_left {f : Ft} {t b out : List Ft} (h : ∀ g u, b = g :: u → cmpFt f g ≤ 0) (hm : Merge [t, b] out) : Merge [f :: t, b] (f :: out) := by
  refine Merge.step _ 0 f t out rfl (fun k g u hk => ?_) hm
  match k, hk with
  | 0, hk => cases hk; exact .inr ⟨cmpFt_self _, Nat.le_refl _⟩
  | 1, hk =>
    have := h g u (by simpa using hk)
    unfold leP
    omega
theorem m2_right {g : Ft} {u a out : List Ft} (h : ∀ f t, a = f :: t → cmpFt g f < 0) (hm : Merge [a, u] out) : Merge [a, g :: u] (g :: out) := by
  refine Merge.step _ 1 g u out rfl (fun k f t hk => ?_) hm
  match k, hk with
  | 0, hk => exact .inl (h f t (by simpa using hk))
  | 1, hk => cases hk; exact .inr ⟨cmpFt_self _, Nat.le_refl _⟩
theorem lives_merge : Merge [[L 97, L 99, L 99], [L 98, L 99, L 100]] [L 97, L 98, L 99, L 99, L 99, L 100] := by
  refine m2_left (fun g u e => by cases e; rw [cmp_L]; decide +kernel) ?_
  refine m2_right (fun g u e => by cases e; rw [cmp_L]; decide +kernel) ?_
  refine m2_left (fun g u e => by cases e; rw [cmp_L]; decide +kernel) ?_
  refine m2_left (fun g u e => by cases e; rw [cmp_L]; decide +kernel) ?_
  refine m2_right (fun g u e => by cases e) ?_
  refine m2_right (fun g u e => by cases e) ?_
  exact Merge.done _ (by simp)
theorem lives_dd : dd [L 97, L 98, L 99, L 99, L 99, L 100] = [L 97, L 98, L 99, L 100] := by simp [dd, ddS, L]
theorem one_merge : Merge [[], [L 97]] [L 97] := m2_right (fun g u e => by cases e) (Merge.done _ (by simp))
theorem none_merge : Merge [] [] := Merge.done _ (by simp)
theorem letters_fs (w : World) (s : ByteArray) (n : Nat) (hn : s.size = n) (hn2 : n ≤ 1000) (xs : List Ft) (hx : ltrs s = xs) (hl : xs.length = n) :
    Calls Try.prog 18 #[.string s] w fun e w' => ∃ A' c', e = .returned (.slice A' n c') ∧ Fs w' A' xs ∧ (∀ a, A' = some a → w.heap.size ≤ a.block) ∧ Below w.heap.size w w' :=
  (letters_any w s n hn hn2).mono fun e w' ⟨A', c', h1, h2, h3⟩ => ⟨A', c', h1, by
    unfold Fs
    rw [hl, ← hx]
    exact Rd.of_own h2, fun a ha => (h2.lt a.block (by rw [ha]; rfl)).1, h3⟩
set_option maxRecDepth 100000 in
set_option maxHeartbeats 3200000 in
theorem lives_any (w : World) : Calls Try.prog 8 #[] w fun e w' => e = .returned (.bool true) ∧ Below w.heap.size w w' := by
  go_enter Try.func8, Try.ntmps8
  go_wp2_with fail
  refine (letters_fs w ⟨#[97]⟩ 1 rfl (by omega) [L 97] l1 rfl).mono ?_
  rintro _ w1 ⟨A1, c1, rfl, f1, a1, b1⟩
  obtain ⟨C, hC⟩ : ∃ C, w1.heap.size = C := ⟨_, rfl⟩
  obtain ⟨w3, hw3⟩ : ∃ w3, (w1.alloc (.cells #[.int .i64 0] 3)).alloc (.cells #[.slice A1 1 c1, .pointer (some ⟨C, 0, none⟩)] 30) = w3 := ⟨_, rfl⟩
  have b3 : Below C w1 w3 := by rw [← hw3, ← hC]; exact ((Below.refl _ _).alloc (Nat.le_refl _) _).alloc (by simp) _
  have kC : Blk w3 C 3 #[.int .i64 0] := by rw [← hw3, ← hC]; exact (Blk.new w1 _ _).alloc _
  have kO : Blk w3 (C + 1) 30 #[.slice A1 1 c1, .pointer (some ⟨C, 0, none⟩)] := by
    rw [← hw3]
    have := Blk.new (w1.alloc (.cells #[.int .i64 0] 3)) 30 #[.slice A1 1 c1, .pointer (some ⟨C, 0, none⟩)]
    rwa [World.size_alloc, hC] at this
  have hs3 : w3.heap.size = C + 2 := by rw [← hw3, ← hC]; simp
  have hw1 : w.heap.size ≤ C := by rw [← hC]; exact b1.size
  have B3 : Below w.heap.size w w3 := b1.trans (b3.mono hw1)
  have f3 : Fs w3 A1 [L 97] := f1.below (by rw [hC]; exact b3)
  have a3 : ∀ a, A1 = some a → a.block ≠ C := fun a ha => by have := Rd.lt_ f1 (by simp) a ha; omega
  replace hw3 := Lib.hid hw3
  clear f1 a1 b1 b3
  go_wp2_with (first | rw [hC] | rw [hw3.out] | fail)
  refine (letters_fs w3 ⟨#[97, 99, 99]⟩ 3 rfl (by omega) _ l2 rfl).mono ?_
  rintro _ w4 ⟨A4, c4, rfl, f4, _, b4⟩
  go_wp2_with fail
  refine (letters_fs w4 ⟨#[98, 99, 100]⟩ 3 rfl (by omega) _ l3 rfl).mono ?_
  rintro _ w5 ⟨A5, c5, rfl, f5, _, b5⟩
  obtain ⟨w6, hw6⟩ : ∃ w6, w5.alloc (.cells #[.slice A4 3 c4, .slice A5 3 c5] 26) = w6 := ⟨_, rfl⟩
  have b6 : Below w5.heap.size w5 w6 := by rw [← hw6]; exact (Below.refl _ _).alloc (Nat.le_refl _) _
  have k6 : Blk w6 w5.heap.size 26 #[.slice A4 3 c4, .slice A5 3 c5] := by rw [← hw6]; exact Blk.new w5 _ _
  have hR : Rows_ w6 (some ⟨w5.heap.size, 0, none⟩) [⟨A4, [L 97, L 99, L 99], c4⟩, ⟨A5, [L 98, L 99, L 100], c5⟩] := ⟨k6.rd rfl (fun j u hu => by simpa [slV] using hu), fun x hx => by
    simp only [List.mem_cons, List.not_mem_nil, or_false] at hx
    rcases hx with rfl | rfl
    · exact (f4.below b5).below b6
    · exact f5.below b6⟩
  have po := lawOf_any w6 (some ⟨w5.heap.size, 0, none⟩) 2 2 [⟨A4, [L 97, L 99, L 99], c4⟩, ⟨A5, [L 98, L 99, L 100], c5⟩] rfl (by omega) hR _ lives_merge (by simp)
  rw [lives_dd] at po
  have B6 : Below w3.heap.size w3 w6 := b4.trans ((b5.trans (b6.mono b5.size)).mono b4.size)
  replace hw6 := Lib.hid hw6
  clear hR k6 f4 f5 b4 b5 b6
  go_wp2_with (first | rw [hw6.out] | fail)
  refine po.mono ?_
  clear po
  rintro _ w7 ⟨A7, c7, rfl, o7, b7⟩
  have f7 : Fs w7 A7 [L 97, L 98, L 99, L 100] := Rd.of_own o7
  go_wp2_with fail
  refine (letters_fs w7 ⟨#[97, 98, 99, 100]⟩ 4 rfl (by omega) _ l4 rfl).mono ?_
  rintro _ w8 ⟨A8, c8, rfl, f8, _, b8⟩
  have ps := sameFt_yes w8 A7 A8 4 c7 c8 [L 97, L 98, L 99, L 100] rfl (by omega) (f7.below b8) f8
  go_wp2_with fail
  refine ps.mono ?_
  clear ps o7 f7 f8
  rintro _ w9 ⟨rfl, b9⟩
  have B9 : Below w3.heap.size w3 w9 := B6.trans ((b7.trans ((b8.trans (b9.mono b8.size)).mono b7.size)).mono B6.size)
  have kC9 : Blk w9 C _ _ := kC.below B9 kC.lt
  clear B6 b7 b8 b9
  have po := of_any w9 none 0 0 C [] rfl (by omega) (Rd.nil_ _ _ _)
  go_wp2_with fail
  refine po.mono ?_
  clear po
  rintro _ w10 ⟨rfl, A10, c10, kB10, o10, b10⟩
  have B10 := B9.trans (b10.mono B9.size)
  have h39 := B9.size
  have pt := told_any w10 w9.heap.size A10 0 c10 C [] rfl (by omega) kB10 (by omega) (Rd.of_own o10) (fun a _ h => absurd h (by omega)) (fun x hx => by cases hx) ⟨0, kC9.below b10 kC9.lt⟩ [] none_merge (by simp) 9 (by omega) (by omega)
  go_wp2_with fail
  refine pt.mono ?_
  clear pt o10 kB10
  rintro _ w11 ⟨v11, rfl, o11, k11, cn11⟩
  obtain ⟨A11, c11, rfl⟩ := own_slice o11
  have K11 : KeepBut (fun k => k = C) w3 w11 := KeepBut.trans (KeepBut.of_below B10) k11
  have kO11 : Blk w11 (C + 1) _ _ := K11.blk kO (by omega)
  have f11 : Fs w11 A1 [L 97] := Rd.but f3 (fun a ha _ => a3 a ha) K11
  have cO := kO11.cell
  have hl0 : ((dd []).take 9).length = 0 := rfl
  rw [hl0] at o11
  obtain ⟨w12, hw12⟩ : ∃ w12, w11.alloc (.cells #[.nilFunc, .func (.func 10) #[.agg #[.slice A1 1 c1, .pointer (some ⟨C, 0, none⟩)]] #[]] 32) = w12 := ⟨_, rfl⟩
  have b12 : Below w11.heap.size w11 w12 := by rw [← hw12]; exact (Below.refl _ _).alloc (Nat.le_refl _) _
  have k12 : Blk w12 w11.heap.size 32 #[.nilFunc, .func (.func 10) #[.agg #[.slice A1 1 c1, .pointer (some ⟨C, 0, none⟩)]] #[]] := by rw [← hw12]; exact Blk.new w11 _ _
  have po := of_any w12 (some ⟨w11.heap.size, 0, none⟩) 2 2 C [none, some ⟨A1, [L 97], c1⟩] rfl (by omega) (k12.rd rfl (fun j u hu => by simpa [sqV] using hu))
  have cn12 : Cnt C w12 := Cnt.keep _ _ cn11 (KeepBut.of_below b12)
  have f12 := f11.below b12
  have hC11 : C + 2 ≤ w11.heap.size := by have := K11.size; omega
  replace hw12 := Lib.hid hw12
  clear k12 o11
  go_wp2_with (first | rw [hw12.out] | fail)
  refine po.mono ?_
  clear po
  rintro _ w13 ⟨rfl, A13, c13, kB13, o13, b13⟩
  have h12 := b12.size
  have pt := told_any w13 w12.heap.size A13 2 c13 C [none, some ⟨A1, [L 97], c1⟩] rfl (by omega) kB13 (by omega) (Rd.of_own o13) (fun a ha h => by have := (o13.lt a.block (by rw [ha]; rfl)).1; omega) (fun x hx => by
    simp only [List.mem_cons, Option.some.injEq, List.not_mem_nil, or_false, reduceCtorEq, false_or] at hx
    subst hx
    exact ⟨f12.below b13, fun a ha _ => a3 a ha, by simp⟩) (Cnt.keep _ _ cn12 (KeepBut.of_below b13)) [L 97] one_merge (by simp) 9 (by omega) (by omega)
  have hd1 : (dd [L 97]).take 9 = [L 97] := rfl
  rw [hd1] at pt
  go_wp2_with fail
  refine pt.mono ?_
  clear pt o13 kB13
  rintro _ w14 ⟨v14, rfl, o14, k14, _⟩
  obtain ⟨A14, c14, rfl⟩ := own_slice o14
  have f14 : Fs w14 A14 [L 97] := Rd.of_own o14
  go_wp2_with fail
  refine (letters_fs w14 ⟨#[97]⟩ 1 rfl (by omega) [L 97] l1 rfl).mono ?_
  rintro _ w15 ⟨A15, c15, rfl, f15, _, b15⟩
  have ps := sameFt_yes w15 A14 A15 1 c14 c15 [L 97] rfl (by omega) (f14.below b15) f15
  go_wp2_with fail
  refine ps.mono ?_
  clear ps
  rintro _ w16 ⟨rfl, b16⟩
  have K16 : KeepBut (fun k => k = C) w3 w16 := KeepBut.trans K11 (((KeepBut.of_below b12).trans (KeepBut.of_below b13)).trans (k14.trans ((KeepBut.of_below b15).trans (KeepBut.of_below b16))))
  have Bf := B3.trans (K16.below B3.size (fun k e => by omega))
  go_wp2
  go_ret
  exact ⟨rfl, Bf⟩
end Go.Proofs.Ytnlmchbigpjamaa
