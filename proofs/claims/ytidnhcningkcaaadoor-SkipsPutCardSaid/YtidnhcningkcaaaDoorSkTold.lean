/- The walk of the statements' told (layer 8). -/
import Derived.Test.YtidnhcningkcaaaDoorSkRef
import Derived.Test.YtidnhcningkcaaaDoorSkAll
import Derived.Test.YtidnhcningkcaaaDoorTwinB
import Derived.Test.YtidnhcningkcaaaDoorBookC
import Derived.Test.YtidnhcningkcaaaDoorSheets
import Derived.Test.YtidnhcningkcaaaDoorRound
import Derived.Deep.RegionHeld3
import Derived.RangeFuncCalls
import Derived.OrdersIn
import Derived.TacticsIn
set_option linter.unusedSimpArgs false
set_option linter.unusedVariables false
namespace Go
/-- A take whose place is told: the frame does not grow by a layer. -/
theorem wpAnyH_take_atT {P : Program} {md : Region.Mode} {ops : Array Oper} {Q : Exit → Act → World → Prop} {S : World → Prop} {i : Nat} {oi : Oper} {v : Value} {fuel : Nat} {listed : Array Bool} {a : Act} {w : World} (d : Nat) (hi : ops[i]? = some oi) (hd : oi.dst = some d)
    (hs : Region.noSelect ops = true) (hf : Region.free md ops listed i = true) (hr : (Region.ready md ops listed).contains i = true)
    (hQ : ∀ c a w, Q (.panic c) (a.put (some d) v) w → Q (.panic c) a w) (hy : YieldsIf P ops S oi v a) (hS : S w)
    (h : wpAnyH P md ops Q S fuel (listed.setIfInBounds i true) { a with tmps := a.tmps.setIfInBounds d v } w) : wpAnyH P md ops Q S (fuel + 1) listed a w :=
  wpAnyH_take hi hs hf hr (by rw [hd]; exact hQ) hy hS (by rw [hd]; exact h)
end Go
namespace Herb
open Go Go.RowKit
theorem results_cell_bool {P : Program} {fn : Func} {p : Tmp} {ty : TypeId} (h : fn.results = #[.cell p ty]) (tmps : Array Value) (w : World) (g : Nat) (b : Bool)
    (hp : tmps.getD p undef = .pointer (some ⟨g, 0, none⟩)) (hu : P.underlying ty = some .bool) (hc : w.cell? ⟨g, 0, none⟩ = some (.bool b)) : (results fn tmps).run P w = .ok (.bool b) w := by
  have hp' : tmps[p]?.getD undef = .pointer (some ⟨g, 0, none⟩) := by simpa using hp
  simp [results, h, hp', asAddr, loadVar, isAgg, run_underlying hu, hc, go_sem]
end Herb
namespace Go.Proofs.YtidnhcningkcaaaDoor
open Go Go.RowKit Go.Shelf Herb
attribute [local go_sem] Oper.semAt_some

theorem blk_ownE {B : Nat} (g : Nat) (t : TypeId) (cs : Array Value) (X Y : World) (row : Option Nat) (hs : Blk X g t cs) (hg : X.grownBy Y row) (hr : ∀ r, row = some r → B ≤ r ∧ ∃ o : Obj, X.heap[r]? = some o ∧ o.isCells = false) : Blk Y g t cs :=
  hs.grown hg (fun e => by
    obtain ⟨_, o, ho, hc⟩ := hr g e.symm
    unfold Blk at hs
    rw [hs] at ho
    cases ho
    cases hc)
theorem enc2_own (B B' : Nat) (x : List UInt8 × Int) (vs : Array Value) : OwnFrom B (fun (_ : Unit) W => EncK2 B' x vs W) := by
  rintro _ X Y row ⟨g, rfl, hB, hk, hl⟩ hg hr
  exact ⟨g, rfl, hB, blk_ownE (B := B) _ _ _ X Y row hk hg hr, hl⟩
/-- What told's rounds keep: below the book all lies as it lay; the counter; the sheets, each in a block of its own. -/
structure ToldI (w3 : World) (Bg : Nat) (W : World) (pre : List (List UInt8 × Int)) : Prop where
  bel : Below w3.heap.size w3 W
  box : Boxed W (w3.heap.size + 1) 3 (.int .i64 (pre.length : Int))
  sh : ∃ Q : List Sh, Q.length = pre.length ∧ BookAt W w3.heap.size w3.heap.size (Q.map Sh.v) ∧ ∀ j (h : j < Q.length) (h' : j < pre.length), ∃ g, Bg ≤ g ∧ Q[j].A = some ⟨g, 0, none⟩ ∧ Q[j].n = pre[j].1.length ∧ Q[j].c = pre[j].1.length ∧ pre[j].1.length ≤ 140737488355328 ∧ Blk W g 5 (bvs pre[j].1).toArray
theorem ToldI.own {w3 : World} {Bg : Nat} {B : Nat} (hB : w3.heap.size ≤ B) : OwnFrom B (fun (pre : List (List UInt8 × Int)) W => ToldI w3 Bg W pre) := by
  rintro pre X Y row ⟨h1, h2, Q, h3, ⟨Ab, cb, h4, h5⟩, h6⟩ hg hr
  refine ⟨ownFrom_below (β := Unit) (Nat.le_refl _) hB () X Y row h1 hg hr, blk_ownE (B := B) _ _ _ X Y row h2 hg hr, Q, h3, ⟨Ab, cb, blk_ownE (B := B) _ _ _ X Y row h4 hg hr, ?_⟩, fun j h h' => ?_⟩
  · refine h5.kept hg ?_
    cases hv : (Value.slice Ab (Q.map Sh.v).length cb).ownBlock with
    | none => exact .inl rfl
    | some k =>
      refine .inr (fun e => ?_)
      obtain ⟨_, o, ho, hc⟩ := hr k e.symm
      exact own_neO h5 ho hc hv.symm
  · obtain ⟨g, a1, a2, a3, a4, a5, a6⟩ := h6 j h h'
    exact ⟨g, a1, a2, a3, a4, a5, blk_ownE (B := B) _ _ _ X Y row a6 hg hr⟩
theorem bvs_inj : ∀ {a b : List UInt8}, bvs a = bvs b → a = b
  | [], [], _ => rfl
  | [], y :: b, h => by cases h
  | x :: a, [], h => by cases h
  | x :: a, y :: b, h => by
    have h' : bv x :: bvs a = bv y :: bvs b := h
    injection h' with h1 h2
    have e : x = y := by
      unfold bv at h1
      injection h1 with _ h3
      exact UInt8.toNat_inj.1 (by omega)
    rw [e, bvs_inj h2]
theorem ToldI.apart {w3 W : World} {Bg : Nat} {pre : List (List UInt8 × Int)} (h : ToldI w3 Bg W pre) (hr : Rises pre) (hl : pre.length ≤ 98) : ∃ Q : List Sh, BookAt W w3.heap.size w3.heap.size (Q.map Sh.v) ∧ Q.length ≤ 98 ∧ ShSt W Q (fun _ => 0) ∧ ShDis Q ∧ ShUp Bg Q := by
  obtain ⟨_, _, Q, h3, h4, h6⟩ := h
  refine ⟨Q, h4, by omega, fun j hj => ?_, fun i j hi hj hij g g' hc hc' ha ha' => ?_, fun i hi hc g ha => ?_⟩
  · obtain ⟨g, a1, a2, a3, a4, a5, a6⟩ := h6 j hj (by omega)
    rw [a3, a4]
    exact ⟨Nat.le_refl _, by omega, .inr ⟨g, _, a2, a6, by simp [bvs_length], Nat.zero_le _, fun x hx => absurd hx (Nat.not_lt_zero x)⟩⟩
  · obtain ⟨g1, a1, a2, a3, a4, a5, a6⟩ := h6 i hi (by omega)
    obtain ⟨g2, b1, b2, b3, b4, b5, b6⟩ := h6 j hj (by omega)
    rw [a2] at ha
    rw [b2] at ha'
    cases ha
    cases ha'
    rintro rfl
    have e : bvs (pre[i]'(by omega)).1 = bvs (pre[j]'(by omega)).1 := by
      have e1 := a6
      have e2 := b6
      unfold Blk at e1 e2
      rw [e1] at e2
      injection e2 with e2
      injection e2 with e2
      simpa using e2
    have e := bvs_inj e
    rcases Nat.lt_or_gt_of_ne hij with hlt | hlt
    · have := List.pairwise_iff_getElem.1 hr i j (by omega) (by omega) hlt
      rw [e, less_irrefl] at this
      cases this
    · have := List.pairwise_iff_getElem.1 hr j i (by omega) (by omega) hlt
      rw [e, less_irrefl] at this
      cases this
  · obtain ⟨g1, a1, a2, _⟩ := h6 i hi (by omega)
    rw [a2] at ha
    cases ha
    exact a1
/-- A sheet more. -/
theorem ToldI.more {w3 W W' : World} {Bg : Nat} {pre : List (List UInt8 × Int)} {x : List UInt8 × Int} {g : Nat} {Q : List Sh} (h1 : Below w3.heap.size w3 W) (h3 : Q.length = pre.length) (h6 : ∀ j (h : j < Q.length) (h' : j < pre.length), ∃ g, Bg ≤ g ∧ Q[j].A = some ⟨g, 0, none⟩ ∧ Q[j].n = pre[j].1.length ∧ Q[j].c = pre[j].1.length ∧ pre[j].1.length ≤ 140737488355328 ∧ Blk W g 5 (bvs pre[j].1).toArray)
    (hlen : pre.length < 98) (hg : Bg ≤ g) (hx : x.1.length ≤ 140737488355328) (hb : Blk W g 5 (bvs x.1).toArray) (hbk : BookAt W' w3.heap.size w3.heap.size (Q.map Sh.v ++ [sheetB (some ⟨g, 0, none⟩) x.1.length x.1.length (pre.length + 1)])) (hk : KeepT W W') (hbl : Below w3.heap.size W W') (hbox : Boxed W (w3.heap.size + 1) 3 (.int .i64 (pre.length : Int))) :
    Boxed W' (w3.heap.size + 1) 3 (.int .i64 (pre.length : Int)) ∧ ToldI w3 Bg (W'.setCell ⟨w3.heap.size + 1, 0, none⟩ (.int .i64 ((pre ++ [x]).length : Int))) (pre ++ [x]) := by
  have hbox' : Boxed W' (w3.heap.size + 1) 3 (.int .i64 (pre.length : Int)) := hk.block _ _ _ _ hbox (by decide) (by decide)
  refine ⟨hbox', (h1.trans hbl).setCell (p := ⟨w3.heap.size + 1, 0, none⟩) (by show w3.heap.size ≤ w3.heap.size + 1; omega) _, hbox'.set _, Q ++ [⟨some ⟨g, 0, none⟩, x.1.length, x.1.length, UInt8.ofNat (pre.length + 1)⟩], by simp [h3], ?_, fun j h h' => ?_⟩
  · have e : (Q ++ [(⟨some ⟨g, 0, none⟩, x.1.length, x.1.length, UInt8.ofNat (pre.length + 1)⟩ : Sh)]).map Sh.v = Q.map Sh.v ++ [sheetB (some ⟨g, 0, none⟩) x.1.length x.1.length (pre.length + 1)] := by
      rw [List.map_append]
      have e2 : (UInt8.ofNat (pre.length + 1)).toNat = pre.length + 1 := by
        rw [UInt8.toNat_ofNat']
        omega
      show _ ++ [sheetB _ _ _ _] = _
      simp only [e2]
    rw [e]
    obtain ⟨Ab, cb, k1, k2⟩ := hbk
    refine ⟨Ab, cb, k1.far (by show w3.heap.size ≠ w3.heap.size + 1; omega) _, ?_⟩
    refine k2.kept (row := some (w3.heap.size + 1)) ⟨rfl, rfl, rfl, by simp, fun k _ hk => heap_setCell_other W' ⟨w3.heap.size + 1, 0, none⟩ k _ (fun e => hk (by rw [e]))⟩ (.inr ?_)
    exact fun h => own_neB k2 hbox' (by decide) h.symm
  · have far : ∀ (g' : Nat) (cs : Array Value), Blk W g' 5 cs → Blk (W'.setCell ⟨w3.heap.size + 1, 0, none⟩ (.int .i64 ((pre ++ [x]).length : Int))) g' 5 cs := fun g' cs hb' => by
      have h2 : Blk W' g' 5 cs := hk.block _ _ _ _ hb' (by decide) (by decide)
      exact h2.far (h2.ne_ (g' := w3.heap.size + 1) (t' := 3) (cs' := #[.int .i64 (pre.length : Int)]) hbox' (by decide)) _
    by_cases hj : j < pre.length
    · obtain ⟨g', a1, a2, a3, a4, a5, a6⟩ := h6 j (by omega) hj
      rw [List.getElem_append_left (by omega), List.getElem_append_left hj]
      exact ⟨g', a1, a2, a3, a4, a5, far _ _ a6⟩
    · have hje : j = pre.length := by simp at h'; omega
      subst hje
      refine ⟨g, hg, ?_⟩
      rw [List.getElem_append_right (by omega), List.getElem_append_right (by omega)]
      simp only [h3, Nat.sub_self, List.getElem_cons_zero]
      exact ⟨trivial, trivial, trivial, hx, far _ _ hb⟩
set_option maxRecDepth 100000 in
set_option maxHeartbeats 3200000 in
theorem told_any (w : World) (base p g r cR : Nat) (AR : Option Addr) (M : List (List UInt8 × Int)) (hS : SkL w base p g M) (hR : RefK w base r AR cR M) (hri : Rises M) (hM : M.length ≤ 90) (K : List UInt8) (A : Option Addr) (m c : Nat) (hm : K.length = m) (hm2 : m ≤ 140737488355328) (hb : Bs w A K) (most : Nat) (hmost : 1 ≤ most) (hmost2 : most ≤ 100000) :
    Calls Tryd.prog 13 #[.pointer (some ⟨p, 0, none⟩), .pointer (some ⟨r, 0, none⟩), .slice A m c, .int .i64 (most : Int)] w fun e w' => e = .returned (.bool true) ∧ Below w.heap.size w w' := by
  obtain ⟨xs, hxs⟩ : ∃ xs, fromM M K = xs := ⟨_, rfl⟩
  obtain ⟨N, L, hh, cap, I, hSk, ht⟩ := hS
  have hxl : xs.length ≤ 90 := by
    rw [← hxs]
    exact Nat.le_trans (List.dropWhile_sublist _).length_le hM
  obtain ⟨w0, hw0⟩ : ∃ w0, (w.alloc (.cells #[.int .i64 (most : Int)] 3)).alloc (.cells #[.bool false] 4) = w0 := ⟨_, rfl⟩
  have b0 : Below w.heap.size w w0 := by rw [← hw0]; exact ((Below.refl _ _).alloc (Nat.le_refl _) _).alloc (by simp) _
  have bM : Boxed w0 w.heap.size 3 (.int .i64 (most : Int)) := by rw [← hw0]; exact (Boxed.new w _ _).alloc _
  have bR : Boxed w0 (w.heap.size + 1) 4 (.bool false) := by
    rw [← hw0]
    have := Boxed.new (w.alloc (.cells #[.int .i64 (most : Int)] 3)) 4 (.bool false)
    rwa [World.size_alloc] at this
  have hs0 : w0.heap.size = w.heap.size + 2 := by rw [← hw0]; simp
  replace hw0 := Lib.hid hw0
  have pw := kfrom_any w0 base r cR AR M (hR.below b0) (by omega) K A m c hm (hb.below b0)
  rw [filter_from hri K, hxs] at pw
  refine (callsIn_wide (n := 9)).1 ?_
  refine callsIn_of_wp_marks Tryd.func13 rfl trivial ?_ rfl
  simp only [Tryd.ntmps13, List.size_toArray, List.length_cons, List.length_nil, Nat.reduceAdd, Nat.reduceSub, Array.replicate_succ, Array.replicate_zero, List.push_toArray, List.append_toArray, List.nil_append, List.cons_append]
  obtain ⟨n, hn⟩ : ∃ n, xs.length = n := ⟨_, rfl⟩
  rw [hn] at pw hxl
  replace hn := Lib.hid hn
  replace hxs := Lib.hid hxs
  gi_wp2_with (first | rw [hw0.out] | fail)
  refine ⟨trivial, (callsIn_wide.2 pw).mono ?_⟩
  clear pw
  rintro _ w1 ⟨v1, rfl, row1, b1⟩
  obtain ⟨A1, c1, rfl⟩ := own_slice row1
  obtain ⟨w2, hw2⟩ : ∃ w2, w1.alloc (.cells #[.slice A1 n c1] 46) = w2 := ⟨_, rfl⟩
  have b2 : Below w1.heap.size w1 w2 := by rw [← hw2]; exact (Below.refl _ _).alloc (Nat.le_refl _) _
  have bW : Boxed w2 w1.heap.size 46 (.slice A1 n c1) := by rw [← hw2]; exact Boxed.new w1 _ _
  have hb02 := b0.trans ((b1.trans (b2.mono b1.size)).mono b0.size)
  have pt := twinBytes_any w2 A c K (by omega) (hb.below hb02)
  rw [hm] at pt
  replace hw2 := Lib.hid hw2
  gi_wp2_with (first | rw [hw2.out] | fail)
  refine ⟨trivial, (callsIn_wide.2 pt).mono ?_⟩
  clear pt
  rintro _ w3 ⟨rfl, hw3⟩
  have kT : Blk w3 w2.heap.size 5 (bvs (K ++ [90, 90])).toArray := by rw [← hw3]; exact Blk.new w2 _ _
  have b3 : Below w2.heap.size w2 w3 := by rw [← hw3]; exact (Below.refl _ _).alloc (Nat.le_refl _) _
  clear hw3
  obtain ⟨w4, hw4⟩ : ∃ w4, (w3.alloc (.cells #[.slice none 0 0] 60)).alloc (.cells #[.int .i64 0] 3) = w4 := ⟨_, rfl⟩
  have b4 : Below w3.heap.size w3 w4 := by rw [← hw4]; exact ((Below.refl _ _).alloc (Nat.le_refl _) _).alloc (by simp) _
  have kB : Blk w4 w3.heap.size 60 #[.slice none 0 0] := by rw [← hw4]; exact (Blk.new w3 _ _).alloc _
  have bI : Boxed w4 (w3.heap.size + 1) 3 (.int .i64 0) := by
    rw [← hw4]
    have := Boxed.new (w3.alloc (.cells #[.slice none 0 0] 60)) 3 (.int .i64 0)
    rwa [World.size_alloc] at this
  have hs4 : w4.heap.size = w3.heap.size + 2 := by rw [← hw4]; simp
  replace hw4 := Lib.hid hw4
  replace hs4 := Lib.hid hs4
  have kT4 := kT.below b4 kT.lt
  have hT4 : Bs w4 (some ⟨w2.heap.size, 0, none⟩) K := kT4.rd (by rw [bvs_length]; omega) (fun j u hu => by
    rw [Nat.zero_add, List.getElem?_toArray, bvs_append, List.getElem?_append_left (by have := (List.getElem?_eq_some_iff.1 hu).1; exact this)]
    exact hu)
  have pf := from_any w4 (some ⟨p, 0, none⟩) K (some ⟨w2.heap.size, 0, none⟩) m (m + 2) hm hm2 hT4
  gi_wp2_with fail
  rw [hw4.out]
  refine ⟨trivial, (callsIn_wide.2 pf).mono ?_⟩
  clear pf
  rintro _ w5 ⟨A5, c5, rfl, bL, bK, hbs5, b5⟩
  have hfn := func_nil w5 _ rfl 27 (.pointer (some ⟨w4.heap.size, 0, none⟩)) (.pointer (some ⟨w4.heap.size + 1, 0, none⟩))
  have b35 : Below w3.heap.size w3 w5 := b4.trans (b5.mono b4.size)
  have hx0 : ToldI w3 w5.heap.size w5 [] := by
    refine ⟨b35, (b5.block _ bI.lt).trans bI, [], rfl, ⟨none, 0, kB.below b5 kB.lt, World.ownsRow_nil _ _ _ _⟩, fun j h h' => absurd h (by simp)⟩
  have hb03 := hb02.trans (b3.mono hb02.size)
  have hseq := from_seq2 (9 - 1) w4.heap.size base p g cap N L hh I _ (told_len I) (by rw [ht]; omega) K A5 m c5 hm w3 w5 (hSk.below hb03) b35 hbs5 bL bK
  rw [toldL_rest, ht, hxs.out] at hseq
  replace hfn := Lib.hid hfn
  gi_wp2_with (first | rw [hfn.out] | fail)
  refine wpIn_range_E2 rfl (by omega) (gf := 27) (lb := #[.pointer (some ⟨w4.heap.size, 0, none⟩), .pointer (some ⟨w4.heap.size + 1, 0, none⟩)]) rfl trivial (enters_of Tryd.func27 (by kernel_rfl) rfl)
    hseq belowK_t (belowK_b b35.size) (Below.refl _ _) (fun x vs W he => by obtain ⟨g, rfl, _⟩ := he; rfl) (enc2_own _ _)
    (fun pre W => ToldI w3 w5.heap.size W pre ∧ pre.length < most)
    (fun cd pre W => ToldI w3 w5.heap.size W pre ∧ pre.length = most ∧ cd = .exit 0)
    (fun s X Y row h hg hr => ⟨ToldI.own b35.size s X Y row h.1 hg hr, h.2⟩)
    (fun cd s X Y row h hg hr => ⟨ToldI.own b35.size s X Y row h.1 hg hr, h.2⟩)
    ⟨hx0, hmost⟩
    (fun vs => { tmps := #[.pointer (some ⟨p, 0, none⟩), .pointer (some ⟨r, 0, none⟩), .slice A m c, .int .i64 (most : Int), undef, undef, undef, .pointer (some ⟨w.heap.size, 0, none⟩), .pointer (some ⟨w.heap.size + 1, 0, none⟩), .pointer (some ⟨w1.heap.size, 0, none⟩), .slice (some ⟨w2.heap.size, 0, none⟩) m (m + 2), .pointer (some ⟨w3.heap.size, 0, none⟩), .pointer (some ⟨w3.heap.size + 1, 0, none⟩), .func (.func 27) #[] #[.pointer (some ⟨w4.heap.size, 0, none⟩), .pointer (some ⟨w4.heap.size + 1, 0, none⟩)], vs.getD 0 undef, vs.getD 1 undef, .pointer (some ⟨r, 0, none⟩), .slice A m c, .slice A1 n c1, .slice A m c, .slice (some ⟨w2.heap.size, 0, none⟩) m (m + 2), .agg #[.slice none 0 0], .pointer (some ⟨p, 0, none⟩), .slice (some ⟨w2.heap.size, 0, none⟩) m (m + 2), .func (.func 27) #[] #[.pointer (some ⟨w4.heap.size, 0, none⟩), .pointer (some ⟨w4.heap.size + 1, 0, none⟩)], .func (.func 27) #[] #[.pointer (some ⟨w4.heap.size, 0, none⟩), .pointer (some ⟨w4.heap.size + 1, 0, none⟩)], .bool false, .func (.func 27) #[] #[.pointer (some ⟨w4.heap.size, 0, none⟩), .pointer (some ⟨w4.heap.size + 1, 0, none⟩)], vs.getD 0 undef, vs.getD 1 undef, undef, undef, undef, undef, undef, undef, undef, undef, undef, undef, undef, undef, undef, undef, undef, undef, undef, undef, undef, undef, undef, undef, undef, undef, undef, undef, undef, undef, undef, undef, undef, undef, undef, undef, undef, undef, undef, undef, undef, undef, undef, undef, undef, undef, undef], defers := [] }) ?assign ?body ?done ?stop
  case assign =>
    rintro l x vs W K ⟨g, rfl, _⟩ hK
    gi_wp2
    exact hK
  case body =>
    rintro l pre ⟨kx, z⟩ vs W ⟨hI, hlt⟩ hpx ⟨g1, rfl, hg1, hk1, hkl⟩
    simp only at hk1 hkl
    have hbel := hI.bel
    obtain ⟨Q0, q1, q2, q3⟩ := hI.sh
    have hbi := hI.box
    have hpl : pre.length < n := by
      have := hpx.length_le
      rw [hn.out] at this
      simp at this
      omega
    have hxe : xs[pre.length]? = some (kx, z) := by
      obtain ⟨t, ht⟩ := hpx
      rw [← ht, List.append_assoc, List.getElem?_append_right (Nat.le_refl _), Nat.sub_self]
      rfl
    obtain ⟨mx, hmx⟩ : ∃ mx, kx.length = mx := ⟨_, rfl⟩
    obtain ⟨b, off, hA1, d0, d1⟩ := entC_at (i := pre.length) (((Rd.of_own row1).below ((b2.trans (b3.mono b2.size)).trans (hbel.mono (by have := b2.size; have := b3.size; omega)))) ) hn.out hpl
    have hge : xs[pre.length]'(by rw [hn.out]; exact hpl) = (kx, z) := by
      rw [List.getElem?_eq_getElem (by rw [hn.out]; exact hpl)] at hxe
      exact Option.some.inj hxe
    rw [hge] at d0 d1
    subst hA1
    obtain ⟨sx, hsx⟩ : ∃ sx : ByteArray, (⟨kx.toArray⟩ : ByteArray) = sx := ⟨_, rfl⟩
    simp only [hsx] at d0
    simp only at d1
    have hks : Bs W (some ⟨g1, 0, none⟩) kx := hk1.rd (by rw [bvs_length]; omega) (fun j u hu => by rw [Nat.zero_add, List.getElem?_toArray]; exact hu)
    have hcv := run_str (P := Tryd.prog) hks 23 9 5 Tryd.underlying23 Tryd.underlying5 Tryd.underlying9 mx mx hmx
    rw [hsx] at hcv
    have bW3 : Boxed W w1.heap.size 46 (.slice (some ⟨b, off, none⟩) n c1) := (hbel.block _ (Nat.lt_of_lt_of_le bW.lt b3.size)).trans ((b3.block _ bW.lt).trans bW)
    have bM3 : Boxed W w.heap.size 3 (.int .i64 (most : Int)) := by
      have h1 : w.heap.size < w1.heap.size := Nat.lt_of_lt_of_le bM.lt b1.size
      have h2 : w.heap.size < w2.heap.size := Nat.lt_of_lt_of_le h1 b2.size
      have h3 : w.heap.size < w3.heap.size := Nat.lt_of_lt_of_le h2 b3.size
      exact (hbel.block _ h3).trans ((b3.block _ h2).trans ((b2.block _ h1).trans ((b1.block _ bM.lt).trans bM)))
    have cI := hbi.cell
    have cW := bW3.cell
    have cM := bM3.cell
    have e1 : W.drew.cell? ⟨w3.heap.size + 1, 0, none⟩ = some (.int .i64 (pre.length : Int)) := cI
    have e2 : W.drew.cell? ⟨w1.heap.size, 0, none⟩ = some (.slice (some ⟨b, off, none⟩) n c1) := cW
    have e3 : W.drew.cell? ⟨b, off + pre.length * 2, none⟩ = some (.string sx) := d0
    have e4 : W.drew.cell? ⟨b, off + pre.length * 2 + 1, none⟩ = some (.int .i64 z) := d1
    have e5 : (convert 23 9 (.slice (some ⟨g1, 0, none⟩) mx mx)).run Tryd.prog W.drew = .ok (.string sx) W.drew := by
      have := run_str (P := Tryd.prog) (w := W.drew) (show Bs W.drew (some ⟨g1, 0, none⟩) kx from hks) 23 9 5 Tryd.underlying23 Tryd.underlying5 Tryd.underlying9 mx mx hmx
      rwa [hsx] at this
    have hpb : Hid (∀ (l : Nat), CallsIn (Fence.wide.inRound l) 6 Tryd.prog 24 #[.pointer (some ⟨w3.heap.size, 0, none⟩), .slice (some ⟨g1, 0, none⟩) mx mx] W.drew fun e w' => e = .returned (.tuple #[]) ∧ BookAt w' w3.heap.size w3.heap.size (Q0.map Sh.v ++ [sheetB (some ⟨g1, 0, none⟩) mx mx (pre.length + 1)]) ∧ KeepT W.drew w' ∧ (w3.heap.size ≤ w3.heap.size → Below w3.heap.size W.drew w')) :=
      Lib.hid (fun l => CallsIn.inRound l (callsIn_wide.2 (bytes_any W.drew w3.heap.size w3.heap.size _ (q2.below (Below.refl _ _).drew) (by exact hbel.size) pre.length (by rw [List.length_map, q1]) (by omega) _ mx mx)))
    have hmore := fun (W' : World) hbk hk hbl => ToldI.more (x := (kx, z)) (W := W.drew) (W' := W') (g := g1) (Q := Q0) hbel.drew q1 q3 (by omega) hg1 hkl hk1 hbk hk hbl hbi
    simp only [hmx] at hmore ⊢
    replace hmore := Lib.hid hmore
    have dlt : decide ((n : Int) ≤ (pre.length : Int)) = false := decide_eq_false (by omega)
    have i1 : (0 : Int) ≤ (pre.length : Int) := by omega
    have i2 : (pre.length : Int) < (n : Int) := by omega
    replace hmx := Lib.hid hmx
    replace hsx := Lib.hid hsx
    have hfol : Tryd.prog.follows .mixedOrders = true := by kernel_rfl
    clear hxe hge hpx q2 q3 hks hk1 hcv hI
    gi_wp2_with fail
    refine wpIn_region_any hfol (wpAny_round (by kernel_rfl) _ _ _ _ (wpAny_of_held (S := fun X => X = W.drew) _ _ _ _ ?_))
    refine wpAnyH_take_atT (i := 0) (v := .int .i64 (pre.length : Int)) 30 rfl (by kernel_rfl) (by kernel_rfl) (by kernel_rfl) (by kernel_rfl) (fun _ _ _ h => h) (.inl ⟨by kernel_rfl, fun X hX => by subst hX; go_simp⟩) rfl ?_
    try simp only [List.setIfInBounds_toArray, List.set_cons_zero, List.set_cons_succ]
    refine wpAnyH_take_atT (i := 1) (v := .slice (some ⟨b, off, none⟩) n c1) 31 rfl (by kernel_rfl) (by kernel_rfl) (by kernel_rfl) (by kernel_rfl) (fun _ _ _ h => h) (.inl ⟨by kernel_rfl, fun X hX => by subst hX; go_simp⟩) rfl ?_
    try simp only [List.setIfInBounds_toArray, List.set_cons_zero, List.set_cons_succ]
    refine wpAnyH_take_atT (i := 2) (v := .int .i64 (n : Int)) 32 rfl (by kernel_rfl) (by kernel_rfl) (by kernel_rfl) (by kernel_rfl) (fun _ _ _ h => h) (.inl ⟨by kernel_rfl, fun X hX => by subst hX; go_simp⟩) rfl ?_
    try simp only [List.setIfInBounds_toArray, List.set_cons_zero, List.set_cons_succ]
    refine wpAnyH_take_atT (i := 3) (v := .bool false) 33 rfl (by kernel_rfl) (by kernel_rfl) (by kernel_rfl) (by kernel_rfl) (fun _ _ _ h => h) (.inl ⟨by kernel_rfl, fun X hX => by subst hX; go_simp⟩) rfl ?_
    try simp only [List.setIfInBounds_toArray, List.set_cons_zero, List.set_cons_succ]
    refine wpAnyH_take_atT (i := 4) (v := .bool false) 34 rfl (by kernel_rfl) (by kernel_rfl) (by kernel_rfl) (by kernel_rfl) (fun _ _ _ h => h) (.inl ⟨by kernel_rfl, fun X hX => by subst hX; go_simp⟩) rfl ?_
    try simp only [List.setIfInBounds_toArray, List.set_cons_zero, List.set_cons_succ]
    refine wpAnyH_take_atT (i := 5) (v := .slice (some ⟨g1, 0, none⟩) mx mx) 35 rfl (by kernel_rfl) (by kernel_rfl) (by kernel_rfl) (by kernel_rfl) (fun _ _ _ h => h) (.inl ⟨by kernel_rfl, fun X hX => by subst hX; go_simp⟩) rfl ?_
    try simp only [List.setIfInBounds_toArray, List.set_cons_zero, List.set_cons_succ]
    refine wpAnyH_take_atT (i := 6) (v := .string sx) 36 rfl (by kernel_rfl) (by kernel_rfl) (by kernel_rfl) (by kernel_rfl) (fun _ _ _ h => h) (.inl ⟨by kernel_rfl, fun X hX => by subst hX; go_simp⟩) rfl ?_
    try simp only [List.setIfInBounds_toArray, List.set_cons_zero, List.set_cons_succ]
    refine wpAnyH_take_atT (i := 7) (v := .slice (some ⟨b, off, none⟩) n c1) 37 rfl (by kernel_rfl) (by kernel_rfl) (by kernel_rfl) (by kernel_rfl) (fun _ _ _ h => h) (.inl ⟨by kernel_rfl, fun X hX => by subst hX; go_simp⟩) rfl ?_
    try simp only [List.setIfInBounds_toArray, List.set_cons_zero, List.set_cons_succ]
    refine wpAnyH_take_atT (i := 8) (v := .int .i64 (pre.length : Int)) 38 rfl (by kernel_rfl) (by kernel_rfl) (by kernel_rfl) (by kernel_rfl) (fun _ _ _ h => h) (.inl ⟨by kernel_rfl, fun X hX => by subst hX; go_simp⟩) rfl ?_
    try simp only [List.setIfInBounds_toArray, List.set_cons_zero, List.set_cons_succ]
    refine wpAnyH_take_atT (i := 9) (v := .pointer (some ⟨b, off + pre.length * 2, none⟩)) 39 rfl (by kernel_rfl) (by kernel_rfl) (by kernel_rfl) (by kernel_rfl) (fun _ _ _ h => h) (.inl ⟨by kernel_rfl, fun X hX => by subst hX; go_simp⟩) rfl ?_
    try simp only [List.setIfInBounds_toArray, List.set_cons_zero, List.set_cons_succ]
    refine wpAnyH_take_atT (i := 10) (v := .pointer (some ⟨b, off + pre.length * 2, none⟩)) 40 rfl (by kernel_rfl) (by kernel_rfl) (by kernel_rfl) (by kernel_rfl) (fun _ _ _ h => h) (.inl ⟨by kernel_rfl, fun X hX => by subst hX; go_simp⟩) rfl ?_
    try simp only [List.setIfInBounds_toArray, List.set_cons_zero, List.set_cons_succ]
    refine wpAnyH_take_atT (i := 11) (v := .string sx) 41 rfl (by kernel_rfl) (by kernel_rfl) (by kernel_rfl) (by kernel_rfl) (fun _ _ _ h => h) (.inl ⟨by kernel_rfl, fun X hX => by subst hX; go_simp⟩) rfl ?_
    try simp only [List.setIfInBounds_toArray, List.set_cons_zero, List.set_cons_succ]
    refine wpAnyH_take_atT (i := 12) (v := .bool false) 42 rfl (by kernel_rfl) (by kernel_rfl) (by kernel_rfl) (by kernel_rfl) (fun _ _ _ h => h) (.inl ⟨by kernel_rfl, fun X hX => by subst hX; go_simp⟩) rfl ?_
    try simp only [List.setIfInBounds_toArray, List.set_cons_zero, List.set_cons_succ]
    refine wpAnyH_take_atT (i := 13) (v := .bool false) 43 rfl (by kernel_rfl) (by kernel_rfl) (by kernel_rfl) (by kernel_rfl) (fun _ _ _ h => h) (.inl ⟨by kernel_rfl, fun X hX => by subst hX; go_simp⟩) rfl ?_
    try simp only [List.setIfInBounds_toArray, List.set_cons_zero, List.set_cons_succ]
    refine wpAnyH_take_atT (i := 14) (v := .bool false) 44 rfl (by kernel_rfl) (by kernel_rfl) (by kernel_rfl) (by kernel_rfl) (fun _ _ _ h => h) (.inl ⟨by kernel_rfl, fun X hX => by subst hX; go_simp⟩) rfl ?_
    try simp only [List.setIfInBounds_toArray, List.set_cons_zero, List.set_cons_succ]
    refine wpAnyH_take_atT (i := 15) (v := .int .i64 z) 45 rfl (by kernel_rfl) (by kernel_rfl) (by kernel_rfl) (by kernel_rfl) (fun _ _ _ h => h) (.inl ⟨by kernel_rfl, fun X hX => by subst hX; go_simp⟩) rfl ?_
    try simp only [List.setIfInBounds_toArray, List.set_cons_zero, List.set_cons_succ]
    refine wpAnyH_take_atT (i := 16) (v := .slice (some ⟨b, off, none⟩) n c1) 46 rfl (by kernel_rfl) (by kernel_rfl) (by kernel_rfl) (by kernel_rfl) (fun _ _ _ h => h) (.inl ⟨by kernel_rfl, fun X hX => by subst hX; go_simp⟩) rfl ?_
    try simp only [List.setIfInBounds_toArray, List.set_cons_zero, List.set_cons_succ]
    refine wpAnyH_take_atT (i := 17) (v := .int .i64 (pre.length : Int)) 47 rfl (by kernel_rfl) (by kernel_rfl) (by kernel_rfl) (by kernel_rfl) (fun _ _ _ h => h) (.inl ⟨by kernel_rfl, fun X hX => by subst hX; go_simp⟩) rfl ?_
    try simp only [List.setIfInBounds_toArray, List.set_cons_zero, List.set_cons_succ]
    refine wpAnyH_take_atT (i := 18) (v := .pointer (some ⟨b, off + pre.length * 2, none⟩)) 48 rfl (by kernel_rfl) (by kernel_rfl) (by kernel_rfl) (by kernel_rfl) (fun _ _ _ h => h) (.inl ⟨by kernel_rfl, fun X hX => by subst hX; go_simp⟩) rfl ?_
    try simp only [List.setIfInBounds_toArray, List.set_cons_zero, List.set_cons_succ]
    refine wpAnyH_take_atT (i := 19) (v := .pointer (some ⟨b, off + pre.length * 2 + 1, none⟩)) 49 rfl (by kernel_rfl) (by kernel_rfl) (by kernel_rfl) (by kernel_rfl) (fun _ _ _ h => h) (.inl ⟨by kernel_rfl, fun X hX => by subst hX; go_simp⟩) rfl ?_
    try simp only [List.setIfInBounds_toArray, List.set_cons_zero, List.set_cons_succ]
    refine wpAnyH_take_atT (i := 20) (v := .int .i64 z) 50 rfl (by kernel_rfl) (by kernel_rfl) (by kernel_rfl) (by kernel_rfl) (fun _ _ _ h => h) (.inl ⟨by kernel_rfl, fun X hX => by subst hX; go_simp⟩) rfl ?_
    try simp only [List.setIfInBounds_toArray, List.set_cons_zero, List.set_cons_succ]
    refine wpAnyH_take_atT (i := 21) (v := .bool false) 51 rfl (by kernel_rfl) (by kernel_rfl) (by kernel_rfl) (by kernel_rfl) (fun _ _ _ h => h) (.inl ⟨by kernel_rfl, fun X hX => by subst hX; go_simp⟩) rfl ?_
    try simp only [List.setIfInBounds_toArray, List.set_cons_zero, List.set_cons_succ]
    refine wpAnyH_take_atT (i := 22) (v := .bool false) 52 rfl (by kernel_rfl) (by kernel_rfl) (by kernel_rfl) (by kernel_rfl) (fun _ _ _ h => h) (.inl ⟨by kernel_rfl, fun X hX => by subst hX; go_simp⟩) rfl ?_
    try simp only [List.setIfInBounds_toArray, List.set_cons_zero, List.set_cons_succ]
    refine wpAnyH_done (by kernel_rfl) ?_ _
    refine noOut_normal ?_
    have hdr : ({ heap := W.heap, tape := W.tape, drawn := W.drawn + 1, os := W.os, output := W.output } : World) = W.drew := rfl
    rw [hdr]
    clear hdr
    have hbl0 : Below w3.heap.size W W.drew := (Below.refl _ W).drew
    have el : ((pre ++ [(kx, z)]).length : Int) = (pre.length : Int) + 1 := by simp
    have eln : (pre ++ [(kx, z)]).length = pre.length + 1 := by simp
    rw [el] at hmore
    replace el := Lib.hid el
    clear e1 e2 e3 e4 e5 cI cW cM d0 d1
    gi_wp2_with fail
    refine ⟨trivial, (hpb.out l).mono ?_⟩
    clear hpb
    rintro _ W2 ⟨rfl, hbk2, hkt2, hbl2⟩
    have hbl2d := hbl2 (Nat.le_refl _)
    replace hbl2 := hbl0.trans hbl2d
    obtain ⟨hbox2, hmr⟩ := hmore.out W2 hbk2 hkt2 hbl2d
    have bM4 : Boxed W2 w.heap.size 3 (.int .i64 (most : Int)) := hkt2.block _ _ _ _ bM3 (by decide) (by decide)
    have hne : w.heap.size ≠ w3.heap.size + 1 := by have := hbel.size; have := hb03.size; omega
    have bM5 : Boxed (W2.setCell ⟨w3.heap.size + 1, 0, none⟩ (.int .i64 ((pre.length : Int) + 1))) w.heap.size 3 (.int .i64 (most : Int)) := (heap_setCell_other W2 ⟨w3.heap.size + 1, 0, none⟩ w.heap.size _ hne).trans bM4
    have bI5 : Boxed (W2.setCell ⟨w3.heap.size + 1, 0, none⟩ (.int .i64 ((pre.length : Int) + 1))) (w3.heap.size + 1) 3 (.int .i64 ((pre.length : Int) + 1)) := hbox2.set _
    have hko : KeepsOthers W (W2.setCell ⟨w3.heap.size + 1, 0, none⟩ (.int .i64 ((pre.length : Int) + 1))) := by
      refine ⟨by have := hkt2.size; simpa using this, fun k o hk ho => ?_⟩
      refine (heap_setCell_other W2 ⟨w3.heap.size + 1, 0, none⟩ k _ (fun e => ?_)).trans (hkt2.other k o hk ho)
      subst e
      have hbx : W.heap[w3.heap.size + 1]? = _ := hbi
      rw [hbx] at hk
      cases hk
      cases ho
    have hkp : Below w3.heap.size W (W2.setCell ⟨w3.heap.size + 1, 0, none⟩ (.int .i64 ((pre.length : Int) + 1))) := hbl2.setCell (p := ⟨w3.heap.size + 1, 0, none⟩) (by show w3.heap.size ≤ w3.heap.size + 1; omega) _
    have cI2 := hbox2.cell
    have fI2 := hbox2.frozen
    have cM5 := bM5.cell
    have cI5 := bI5.cell
    replace hne := Lib.hid hne
    replace hmr := Lib.hid hmr
    clear hmore
    by_cases hm1 : pre.length + 1 = most
    · have hme : ((pre.length : Int) + 1 == (most : Int)) = true := by simp; omega
      gi_wp2
      exact ⟨hko.from _, hmr.out, by rw [eln]; exact hm1, rfl⟩
    · have hme : ((pre.length : Int) + 1 == (most : Int)) = false := by simp; omega
      gi_wp2
      exact ⟨hko.from _, hkp, hmr.out, by rw [eln]; omega⟩
  case done =>
    rintro D W hD ⟨hI, hlt⟩ hK
    subst hD
    have hbel := hI.bel
    have hbi := hI.box
    have hrx : Rises xs := by rw [← hxs.out]; exact List.Pairwise.sublist (List.dropWhile_sublist _) hri
    rw [hn.out] at hbi hlt
    have f1 : ((most : Int) < (n : Int)) = False := by simp; omega
    have h53 := b35.size
    have h03 := hb03.size
    have hDW : w5.heap.size < W.heap.size := (Array.getElem?_eq_some_iff.1 hK).1
    have bW3 : Boxed W w1.heap.size 46 (.slice A1 n c1) := (hbel.block _ (Nat.lt_of_lt_of_le bW.lt b3.size)).trans ((b3.block _ bW.lt).trans bW)
    have l1 : w.heap.size + 1 < w1.heap.size := Nat.lt_of_lt_of_le bR.lt b1.size
    have l2 : w.heap.size + 1 < w3.heap.size := by have := b2.size; have := b3.size; omega
    have bM3 : Boxed W w.heap.size 3 (.int .i64 (most : Int)) := (hbel.block _ (by omega)).trans ((b3.block _ (by have := b2.size; omega)).trans ((b2.block _ (by omega)).trans ((b1.block _ bM.lt).trans bM)))
    have bR3 : Boxed W (w.heap.size + 1) 4 (.bool false) := (hbel.block _ l2).trans ((b3.block _ (by have := b2.size; omega)).trans ((b2.block _ l1).trans ((b1.block _ bR.lt).trans bR)))
    have cI := hbi.cell
    have cW := bW3.cell
    have cM := bM3.cell
    have hbW := hb03.trans (hbel.mono hb03.size)
    have pl := leftBytes_any W w2.heap.size A c K (by omega) (hb.below hbW) (kT.below hbel kT.lt)
    rw [hm] at pl
    have fM : ((most : Int) < 0) = False := by simp
    replace pl := Lib.hid pl
    gi_wp2_with fail
    refine ⟨trivial, (callsIn_wide.2 pl.out).mono ?_⟩
    clear pl cI cW cM
    rintro _ W2 ⟨rfl, bl2⟩
    have hI2 : ToldI w3 w5.heap.size W2 xs := by
      obtain ⟨t1, t2, Q, t3, t4, t6⟩ := hI
      refine ⟨t1.trans (bl2.mono t1.size), (bl2.block _ t2.lt).trans t2, Q, t3, t4.below bl2, fun j h h' => ?_⟩
      obtain ⟨g, a1, a2, a3, a4, a5, a6⟩ := t6 j h h'
      exact ⟨g, a1, a2, a3, a4, a5, a6.below bl2 a6.lt⟩
    have hK2 : W2.heap[w5.heap.size]? = some (.deferred (some [])) := (bl2.block _ hDW).trans hK
    obtain ⟨Q, p1, p2, p3, p4, p5⟩ := hI2.apart hrx (by rw [hn.out]; omega)
    have pa := apart_any W2 w3.heap.size w3.heap.size (w5.heap.size + 1) Q p1 (by have := bl2.size; omega) p2 p3 p4 (fun i hi hc g ha => by
      have h1 := p5 i hi hc g ha
      have h2 := p3 i hi
      obtain ⟨_, _, h2⟩ := h2
      rcases h2 with h2 | ⟨g', cs, e, hk, _⟩
      · exact absurd h2 hc
      · rw [e] at ha
        cases ha
        have : g ≠ w5.heap.size := by
          rintro rfl
          unfold Blk at hk
          rw [hk] at hK2
          cases hK2
        omega)
    replace pa := Lib.hid pa
    gi_wp2_with fail
    refine ⟨trivial, (callsIn_wide.2 pa.out).mono ?_⟩
    clear pa p1 p2 p3 p4 p5 hI2 hI
    rintro _ W3 ⟨rfl, bl3⟩
    have hK3 : W3.heap[w5.heap.size]? = some (.deferred (some [])) := (bl3.block _ (by omega)).trans hK2
    have bR4 : Boxed W3 (w.heap.size + 1) 4 (.bool false) := (bl3.block _ (by omega)).trans ((bl2.block _ (by omega)).trans bR3)
    have hB3 : Below w.heap.size w W3 := (hbW.trans (bl2.mono hbW.size)).trans (bl3.mono (by omega))
    have cR := bR4.cell
    have fR := bR4.frozen
    gi_wp2
    have hK' := (KeepsOthers.setCell W3 ⟨w.heap.size + 1, 0, none⟩ (.bool true)).same _ _ hK3 rfl
    have hB' := hB3.setCell (p := ⟨w.heap.size + 1, 0, none⟩) (by simp) (.bool true)
    have hr' := bR4.set (.bool true)
    refine ⟨by simp, .inl ⟨_, _, rfl, run_takeDeferred hK', ?_⟩⟩
    refine ⟨_, results_cell_bool rfl _ _ (w.heap.size + 1) true rfl Tryd.underlying4 (Boxed.kept hr' (grownBy_putObj' _ _ _) (by simp; omega)).cell, rfl, ?_⟩
    exact hB'.trans (belowK_b (w := w5) (by omega) _ _ _ _ (Nat.le_refl _) hK' rfl rfl)
  case stop =>
    rintro D cd pre W hD hpx ⟨hI, hlt, rfl⟩ hK
    subst hD
    have hrp : Rises pre := List.Pairwise.sublist hpx.sublist (by rw [← hxs.out]; exact List.Pairwise.sublist (List.dropWhile_sublist _) hri)
    have hpn : pre.length ≤ n := by have := hpx.length_le; rwa [hn.out] at this
    have hbi := hI.box
    rw [hlt] at hbi hpn
    by_cases hq : most < n
    · have f1 : ((most : Int) < (n : Int)) = True := by simp; omega
      have hbel := hI.bel
      have h53 := b35.size
      have h03 := hb03.size
      have hDW : w5.heap.size < W.heap.size := (Array.getElem?_eq_some_iff.1 hK).1
      have bW3 : Boxed W w1.heap.size 46 (.slice A1 n c1) := (hbel.block _ (Nat.lt_of_lt_of_le bW.lt b3.size)).trans ((b3.block _ bW.lt).trans bW)
      have l1 : w.heap.size + 1 < w1.heap.size := Nat.lt_of_lt_of_le bR.lt b1.size
      have l2 : w.heap.size + 1 < w3.heap.size := by have := b2.size; have := b3.size; omega
      have bM3 : Boxed W w.heap.size 3 (.int .i64 (most : Int)) := (hbel.block _ (by omega)).trans ((b3.block _ (by have := b2.size; omega)).trans ((b2.block _ (by omega)).trans ((b1.block _ bM.lt).trans bM)))
      have bR3 : Boxed W (w.heap.size + 1) 4 (.bool false) := (hbel.block _ l2).trans ((b3.block _ (by have := b2.size; omega)).trans ((b2.block _ l1).trans ((b1.block _ bR.lt).trans bR)))
      have cI := hbi.cell
      have cW := bW3.cell
      have cM := bM3.cell
      have hbW := hb03.trans (hbel.mono hb03.size)
      have pl := leftBytes_any W w2.heap.size A c K (by omega) (hb.below hbW) (kT.below hbel kT.lt)
      rw [hm] at pl
      have fM : ((most : Int) < 0) = False := by simp
      replace pl := Lib.hid pl
      gi_wp2_with fail
      refine ⟨trivial, (callsIn_wide.2 pl.out).mono ?_⟩
      clear pl cI cW cM
      rintro _ W2 ⟨rfl, bl2⟩
      have hI2 : ToldI w3 w5.heap.size W2 pre := by
        obtain ⟨t1, t2, Q, t3, t4, t6⟩ := hI
        refine ⟨t1.trans (bl2.mono t1.size), (bl2.block _ t2.lt).trans t2, Q, t3, t4.below bl2, fun j h h' => ?_⟩
        obtain ⟨g, a1, a2, a3, a4, a5, a6⟩ := t6 j h h'
        exact ⟨g, a1, a2, a3, a4, a5, a6.below bl2 a6.lt⟩
      have hK2 : W2.heap[w5.heap.size]? = some (.deferred (some [])) := (bl2.block _ hDW).trans hK
      obtain ⟨Q, p1, p2, p3, p4, p5⟩ := hI2.apart hrp (by omega)
      have pa := apart_any W2 w3.heap.size w3.heap.size (w5.heap.size + 1) Q p1 (by have := bl2.size; omega) p2 p3 p4 (fun i hi hc g ha => by
        have h1 := p5 i hi hc g ha
        have h2 := p3 i hi
        obtain ⟨_, _, h2⟩ := h2
        rcases h2 with h2 | ⟨g', cs, e, hk, _⟩
        · exact absurd h2 hc
        · rw [e] at ha
          cases ha
          have : g ≠ w5.heap.size := by
            rintro rfl
            unfold Blk at hk
            rw [hk] at hK2
            cases hK2
          omega)
      replace pa := Lib.hid pa
      gi_wp2_with fail
      refine ⟨trivial, (callsIn_wide.2 pa.out).mono ?_⟩
      clear pa p1 p2 p3 p4 p5 hI2 hI
      rintro _ W3 ⟨rfl, bl3⟩
      have hK3 : W3.heap[w5.heap.size]? = some (.deferred (some [])) := (bl3.block _ (by omega)).trans hK2
      have bR4 : Boxed W3 (w.heap.size + 1) 4 (.bool false) := (bl3.block _ (by omega)).trans ((bl2.block _ (by omega)).trans bR3)
      have hB3 : Below w.heap.size w W3 := (hbW.trans (bl2.mono hbW.size)).trans (bl3.mono (by omega))
      have cR := bR4.cell
      have fR := bR4.frozen
      gi_wp2
      have hK' := (KeepsOthers.setCell W3 ⟨w.heap.size + 1, 0, none⟩ (.bool true)).same _ _ hK3 rfl
      have hB' := hB3.setCell (p := ⟨w.heap.size + 1, 0, none⟩) (by simp) (.bool true)
      have hr' := bR4.set (.bool true)
      refine ⟨by simp, .inl ⟨_, _, rfl, run_takeDeferred hK', ?_⟩⟩
      refine ⟨_, results_cell_bool rfl _ _ (w.heap.size + 1) true rfl Tryd.underlying4 (Boxed.kept hr' (grownBy_putObj' _ _ _) (by simp; omega)).cell, rfl, ?_⟩
      exact hB'.trans (belowK_b (w := w5) (by omega) _ _ _ _ (Nat.le_refl _) hK' rfl rfl)
    · obtain rfl : n = most := by omega
      have f1 : ((n : Int) < (n : Int)) = False := by simp
      have hbel := hI.bel
      have h53 := b35.size
      have h03 := hb03.size
      have hDW : w5.heap.size < W.heap.size := (Array.getElem?_eq_some_iff.1 hK).1
      have bW3 : Boxed W w1.heap.size 46 (.slice A1 n c1) := (hbel.block _ (Nat.lt_of_lt_of_le bW.lt b3.size)).trans ((b3.block _ bW.lt).trans bW)
      have l1 : w.heap.size + 1 < w1.heap.size := Nat.lt_of_lt_of_le bR.lt b1.size
      have l2 : w.heap.size + 1 < w3.heap.size := by have := b2.size; have := b3.size; omega
      have bM3 : Boxed W w.heap.size 3 (.int .i64 (n : Int)) := (hbel.block _ (by omega)).trans ((b3.block _ (by have := b2.size; omega)).trans ((b2.block _ (by omega)).trans ((b1.block _ bM.lt).trans bM)))
      have bR3 : Boxed W (w.heap.size + 1) 4 (.bool false) := (hbel.block _ l2).trans ((b3.block _ (by have := b2.size; omega)).trans ((b2.block _ l1).trans ((b1.block _ bR.lt).trans bR)))
      have cI := hbi.cell
      have cW := bW3.cell
      have cM := bM3.cell
      have hbW := hb03.trans (hbel.mono hb03.size)
      have pl := leftBytes_any W w2.heap.size A c K (by omega) (hb.below hbW) (kT.below hbel kT.lt)
      rw [hm] at pl
      have fM : ((n : Int) < 0) = False := by simp
      replace pl := Lib.hid pl
      gi_wp2_with fail
      refine ⟨trivial, (callsIn_wide.2 pl.out).mono ?_⟩
      clear pl cI cW cM
      rintro _ W2 ⟨rfl, bl2⟩
      have hI2 : ToldI w3 w5.heap.size W2 pre := by
        obtain ⟨t1, t2, Q, t3, t4, t6⟩ := hI
        refine ⟨t1.trans (bl2.mono t1.size), (bl2.block _ t2.lt).trans t2, Q, t3, t4.below bl2, fun j h h' => ?_⟩
        obtain ⟨g, a1, a2, a3, a4, a5, a6⟩ := t6 j h h'
        exact ⟨g, a1, a2, a3, a4, a5, a6.below bl2 a6.lt⟩
      have hK2 : W2.heap[w5.heap.size]? = some (.deferred (some [])) := (bl2.block _ hDW).trans hK
      obtain ⟨Q, p1, p2, p3, p4, p5⟩ := hI2.apart hrp (by omega)
      have pa := apart_any W2 w3.heap.size w3.heap.size (w5.heap.size + 1) Q p1 (by have := bl2.size; omega) p2 p3 p4 (fun i hi hc g ha => by
        have h1 := p5 i hi hc g ha
        have h2 := p3 i hi
        obtain ⟨_, _, h2⟩ := h2
        rcases h2 with h2 | ⟨g', cs, e, hk, _⟩
        · exact absurd h2 hc
        · rw [e] at ha
          cases ha
          have : g ≠ w5.heap.size := by
            rintro rfl
            unfold Blk at hk
            rw [hk] at hK2
            cases hK2
          omega)
      replace pa := Lib.hid pa
      gi_wp2_with fail
      refine ⟨trivial, (callsIn_wide.2 pa.out).mono ?_⟩
      clear pa p1 p2 p3 p4 p5 hI2 hI
      rintro _ W3 ⟨rfl, bl3⟩
      have hK3 : W3.heap[w5.heap.size]? = some (.deferred (some [])) := (bl3.block _ (by omega)).trans hK2
      have bR4 : Boxed W3 (w.heap.size + 1) 4 (.bool false) := (bl3.block _ (by omega)).trans ((bl2.block _ (by omega)).trans bR3)
      have hB3 : Below w.heap.size w W3 := (hbW.trans (bl2.mono hbW.size)).trans (bl3.mono (by omega))
      have cR := bR4.cell
      have fR := bR4.frozen
      gi_wp2
      have hK' := (KeepsOthers.setCell W3 ⟨w.heap.size + 1, 0, none⟩ (.bool true)).same _ _ hK3 rfl
      have hB' := hB3.setCell (p := ⟨w.heap.size + 1, 0, none⟩) (by simp) (.bool true)
      have hr' := bR4.set (.bool true)
      refine ⟨by simp, .inl ⟨_, _, rfl, run_takeDeferred hK', ?_⟩⟩
      refine ⟨_, results_cell_bool rfl _ _ (w.heap.size + 1) true rfl Tryd.underlying4 (Boxed.kept hr' (grownBy_putObj' _ _ _) (by simp; omega)).cell, rfl, ?_⟩
      exact hB'.trans (belowK_b (w := w5) (by omega) _ _ _ _ (Nat.le_refl _) hK' rfl rfl)
end Go.Proofs.YtidnhcningkcaaaDoor
