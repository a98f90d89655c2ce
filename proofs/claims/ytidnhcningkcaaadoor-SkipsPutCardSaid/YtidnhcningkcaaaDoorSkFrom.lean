/- The walks of skips' behind, From, All. -/
import Derived.Test.YtidnhcningkcaaaDoorSkPut
import Derived.Deep.RegionWith
import Derived.Test.YtidnhcningkcaaaDoorSeqE
import Derived.RangeFuncNested
import Derived.RangeFuncBound
import Derived.RangeFuncCalls
import Derived.RangeFuncLeaves
import Derived.RangeFuncBox
import Derived.Shelf.Abstract
import Derived.Shelf.RegionOpen
import Derived.WalkKit
import Derived.OwnWalkIn
import Derived.TacticsInMore
import Derived.LoopNIn
import Derived.LoopIn
import Derived.Laws.CopyRow
set_option linter.unusedSimpArgs false
set_option linter.unusedVariables false
namespace Herb
open Go Go.RowKit
theorem room_none {F : Fence} (hd : F.depth = none) (k : Nat) : F.room k := fun d h => by rw [hd] at h; cases h
theorem RoundIn.deep {F : Fence} (hd : F.depth = none) {m m' : Nat} {P : Program} {l : Nat} {f : FuncId} {tmps : Array Value} {assign body : Code} {w : World} {R : Ending → World → Prop}
    (h : RoundIn F m P l f tmps assign body w R) : RoundIn F m' P l f tmps assign body w R := ⟨h.1, fun c cs _ => h.2 c cs (room_none hd _)⟩
theorem YieldAt.deep {F : Fence} (hd : F.depth = none) {m : Nat} (m' : Nat) {P : Program} {l : Nat} {args : Array Value} {W : World} {R : Ending → World → Prop} (h : YieldAt F m P l args W R) : YieldAt F m' P l args W R := by
  obtain ⟨fn, tmps, assign, body, hy, hR⟩ := h
  exact ⟨fn, tmps, assign, body, hy, RoundIn.deep hd hR⟩
/-- A text that is copied into a new block. -/
theorem run_copy_bs {P : Program} {w : World} {A : Option Addr} {l : List UInt8} (hb : Bs w A l) {t ty e : TypeId} (hu : P.underlying t = some (.slice e)) (hs : (P.info? e).map (·.size) = some 1) (n c : Nat) (hn : l.length = n) (g : Nat) (z : Value) (hg : Blk w g e (List.replicate n z).toArray) :
    ∃ w', (Builtin.copy_ #[t, t] ty #[.slice (some ⟨g, 0, none⟩) n n, .slice A n c]).run P w = .ok (goInt n) w' ∧ Blk w' g e (bvs l).toArray ∧ w.grownBy w' (some g) := by
  subst hn
  rcases Nat.eq_zero_or_pos l.length with h0 | h0
  · have hl := List.eq_nil_of_length_eq_zero h0
    subst hl
    exact ⟨w, run_copy_none w t t ty e _ A 0 0 0 c hu hs rfl, hg, World.grownBy.refl w _⟩
  · obtain ⟨b, off, rfl, hlt, hc⟩ := hb.2 h0
    have h := run_copy_row (P := P) w t t ty e g 0 l.length l.length ⟨b, off, none⟩ l.length c _ e (bvs l) hu hs hg (by rw [bvs_length]; simp) (fun j v hv => by rw [add_eq]; exact hc j v hv) (by rw [bvs_length]; simp) (bvs_one l)
    rw [bvs_length] at h
    have e1 : ((List.replicate l.length z).toArray.toList.take 0 ++ bvs l ++ (List.replicate l.length z).toArray.toList.drop (0 + l.length)).toArray = (bvs l).toArray := by simp
    rw [e1] at h
    exact ⟨_, h, setRow_heap w g _ _ e (0, 0) hg, ⟨rfl, rfl, rfl, by simp, fun k _ hk => setRow_other w g k _ (fun e => hk (by rw [e]))⟩⟩
theorem wpListIn_copy_bs {F : Fence} {n : Nat} {P : Program} (w : World) {ops : Array Oper} {rest : List Oper} {o : Oper} {a : Act} {Q : Exit → Act → World → Prop}
    (hgd : o.guard = none) (s x : Operand) (t : TypeId) (hop : o.op = Op.call { callee := Callee.builtin Builtin.copy, args := #[s, x], argTypes := #[t, t] })
    {A : Option Addr} {l : List UInt8} (hb : Bs w A l) {e : TypeId} (hu : P.underlying t = some (.slice e)) (hsz : (P.info? e).map (·.size) = some 1) (m c : Nat) (hn : l.length = m) (g : Nat) (z : Value) (hg : Blk w g e (List.replicate m z).toArray)
    (hs : a.eval s = .slice (some ⟨g, 0, none⟩) m m) (hx : a.eval x = .slice A m c)
    (hK : ∀ w', Blk w' g e (bvs l).toArray → w.grownBy w' (some g) → wpListIn F n P ops Q rest (a.put o.dst (goInt m)) w') :
    wpListIn F n P ops Q (o :: rest) a w := by
  refine wpListIn_plain hgd fun K hK' => ?_
  obtain ⟨w', hrun, r1, r2⟩ := run_copy_bs (P := P) (ty := o.type) hb hu hsz m c hn g z hg
  unfold Oper.wpIn
  refine ⟨?_, ?_⟩
  · simp [Oper.about, hop, resolve, Target.leads, Sem.run_pure]
  · rw [Oper.semAt_plain F _ _ (by rw [hop]; intro c hc'; cases hc')]
    simp [execOp, hop, resolve, invoke, builtin, hs, hx, hrun, Result.andThen]
    exact hK' _ _ (hK w' r1 r2)
theorem grown_below {w w' : World} (h : Below w.heap.size w w') : w.grownBy w' none := ⟨h.os, h.tape, h.output, h.size, fun k hk _ => h.block k hk⟩
theorem dropWhile_all {α : Type} {p : α → Bool} : ∀ {l : List α}, (∀ x ∈ l, p x = true) → l.dropWhile p = []
  | [], _ => rfl
  | x :: l, h => by
    rw [List.dropWhile_cons_of_pos (h x (by simp))]
    exact dropWhile_all (fun y hy => h y (by simp [hy]))
theorem keyAt_blk {w : World} {g : Nat} {e : TypeId} {l : List UInt8} (h : Blk w g e (bvs l).toArray) : KeyAt w e (some ⟨g, 0, none⟩) l :=
  .inr ⟨g, _, _, rfl, h, fun j u hu => by simpa using hu⟩
end Herb
namespace Go.Proofs.YtidnhcningkcaaaDoor
open Go Go.RowKit Go.Shelf Herb
attribute [local go_sem] Oper.semAt_some

/-- How a key and its number come. -/
def EncK (x : List UInt8 × Int) (vs : Array Value) (W : World) : Prop := ∃ A c, vs = #[.slice A x.1.length c, .int .i64 x.2] ∧ KeyAt W 5 A x.1 ∧ x.1.length ≤ 140737488355328
/-- The same, in a block of its own, made since. -/
def EncK2 (B : Nat) (x : List UInt8 × Int) (vs : Array Value) (W : World) : Prop := ∃ g, vs = #[.slice (some ⟨g, 0, none⟩) x.1.length x.1.length, .int .i64 x.2] ∧ B ≤ g ∧ Blk W g 5 (bvs x.1).toArray ∧ x.1.length ≤ 140737488355328
theorem EncK2.weak {B : Nat} {x : List UInt8 × Int} {vs : Array Value} {W : World} (h : EncK2 B x vs W) : EncK x vs W := by
  obtain ⟨g, rfl, _, hk, hl⟩ := h
  exact ⟨_, _, rfl, keyAt_blk hk, hl⟩
theorem size_u8 : (Tryd.prog.info? 5).map (·.size) = some 1 := by kernel_rfl

set_option maxRecDepth 100000 in
set_option maxHeartbeats 1600000 in
theorem behind_in (n l base p g cap : Nat) (N : List Nd) (L : List Nat) (h : Nat → Nat) (I : Inv N L h) (M : Nat) (hM : N.length = M) (hM2 : M ≤ 1000000) (K : List UInt8) (w0 : World) (hS0 : SkAt w0 base p g cap N)
    (J Jx : List (List UInt8 × Int) → World → Prop) (W : World) (B : Nat) (hBW : B ≤ W.heap.size) (hJ : AbidesFrom W.heap.size J)
    (hY : ∀ pre x vs W1, J pre W1 → pre ++ [x] <+: toldL N (restL N L K) → EncK2 B x vs W1 → YieldAt Fence.wide (n - 1) Tryd.prog l vs W1 fun e W' => (e = .returned (.bool true) ∧ J (pre ++ [x]) W' ∧ Below w0.heap.size W1 W') ∨ (e = .returned (.bool false) ∧ Jx (pre ++ [x]) W'))
    (hbW : Below w0.heap.size w0 W) (h0 : J [] W) (a0 : Nat) (ha0 : a0 = topOf N L h K 0) :
    CallsIn Fence.wide n Tryd.prog 28 #[.pointer (some ⟨p, 0, none⟩), .int .i64 (a0 : Int), .func (.yield l) #[] #[]] W fun e W' => (∃ v, e = .returned v) ∧ (J (toldL N (restL N L K)) W' ∨ (∃ pre, pre <+: toldL N (restL N L K) ∧ Jx pre W')) := by
  have hS := hS0.below hbW
  have ha0M : a0 < M := by rw [ha0, ← hM]; exact I.top_lt K 0
  have hch : Chain (nxOf N 0) (0 :: L) := by
    have := I.chain 0 (by omega)
    have e : L.filter (fun i => decide (0 < h i)) = L := by
      rw [List.filter_eq_self]
      intro i hi
      simpa using I.high i hi
    rwa [e] at this
  obtain ⟨R, hR⟩ : ∃ R, restL N L K = R := ⟨_, rfl⟩
  obtain ⟨X, hX⟩ := split_last (aheadL N L K)
  have hAt : aheadL N L K ++ R = L := by rw [← hR]; exact ahead_rest N L K
  have htop : (aheadL N L K).getLastD 0 = a0 := by
    rw [ha0]
    unfold topOf
    have e : onFloor h 0 (aheadL N L K) = aheadL N L K := by
      unfold onFloor
      rw [List.filter_eq_self]
      intro i hi
      simpa using I.high i (ahead_mem hi)
    rw [e]
  have hch2 : Chain (nxOf N 0) (X ++ a0 :: R) := by
    rw [← hAt, ← List.cons_append, hX, htop, List.append_assoc] at hch
    exact hch
  have hnx0 := Chain.mid hch2
  have hRl : ∀ i ∈ R, 0 < i ∧ i < M := fun i hi => by rw [← hM]; exact I.lt i (rest_mem (K := K) (by rw [hR]; exact hi))
  have hRn : R.Nodup := by rw [← hR]; exact I.nodup.sublist (List.dropWhile_sublist _)
  have hRc : Chain (nxOf N 0) R := by
    clear hnx0
    induction X with
    | nil => exact Chain.tail hch2
    | cons x X ih => exact Chain.tail (by
        have : ∀ X : List Nat, Chain (nxOf N 0) (X ++ a0 :: R) → Chain (nxOf N 0) (a0 :: R) := by
          intro X
          induction X with
          | nil => exact fun h => h
          | cons y Y ihY => exact fun h => ihY (Chain.tail h)
        exact this _ hch2)
  have h8 := I.ok8
  rw [hR] at hY ⊢
  clear hch2 hch htop hX hAt ha0 hR
  have hbx := hS.box.cell 0
  rw [hM] at hbx
  have hcx := hS.cellNx h8 (show a0 < N.length by rw [hM]; exact ha0M) (show 0 < 8 by omega)
  rw [hnx0] at hcx
  have hdd : ∀ k : Nat, (Fence.wide.depth.isSome = true → 1 ≤ k) := fun k h => by cases h
  refine callsIn_of_wp Tryd.func28 rfl trivial ?_ rfl
  simp only [Tryd.ntmps28, List.size_toArray, List.length_cons, List.length_nil, Nat.reduceAdd, Nat.reduceSub, Array.replicate_succ, Array.replicate_zero, List.push_toArray, List.append_toArray, List.nil_append, List.cons_append]
  replace hM := Lib.hid hM
  replace hnx0 := Lib.hid hnx0
  gi_wp2
  gi_loopw [1] (fun a wr => ∃ D S : List Nat, R = D ++ S ∧ a = .int .i64 ((S.head?.getD 0 : Nat) : Int) ∧ J (toldL N D) wr ∧ Below w0.heap.size w0 wr ∧ W.heap.size ≤ wr.heap.size) (fun a _ => (R.dropWhile (fun x => x != (intOf a).toNat)).length)
  case atStart => exact ⟨[], R, rfl, rfl, h0, hbW, Nat.le_refl _⟩
  case round =>
    obtain ⟨D, S, hDS, rfl, hJr, hbr, hWr⟩ := hrel
    have hSr := hS0.below hbr
    clear hbx hcx
    rcases S with _ | ⟨i, S⟩
    · rw [List.append_nil] at hDS
      subst hDS
      gi_wp2
      go_end0
      exact ⟨⟨_, rfl⟩, .inl hJr⟩
    · simp only [List.head?_cons, Option.getD_some]
      obtain ⟨hi0, hiM⟩ := hRl i (by rw [hDS]; simp)
      have hiN : i < N.length := by rw [hM.out]; exact hiM
      have hbx := hSr.box.cell 0
      rw [hM.out] at hbx
      have hck := hSr.cellKey h8 hiN
      have hcn := hSr.cellNum h8 hiN
      have hkk := (hSr.keys _ (getD_mem hiN)).1.bs
      have hkl := (hSr.keys _ (getD_mem hiN)).2
      have hpre : toldL N (D ++ [i]) = toldL N D ++ [((N.getD i Nd.zero).key, numOf N i)] := by unfold toldL; rw [List.map_append]; rfl
      have hpx : toldL N (D ++ [i]) <+: toldL N R := by rw [hDS]; exact ⟨toldL N S, by simp [toldL]⟩
      rw [hpre] at hpx
      obtain ⟨d, hd⟩ : ∃ d, N.getD i Nd.zero = d := ⟨_, rfl⟩
      rw [hd] at hck hkk hkl hpre hpx
      obtain ⟨kb, nb, Ab, cb, xb⟩ := d
      simp only at hck hkk hkl hpre hpx
      obtain ⟨z, hz⟩ : ∃ z, numOf N i = z := ⟨_, rfl⟩
      rw [hz] at hcn hpre hpx
      obtain ⟨m, hm⟩ : ∃ m, kb.length = m := ⟨_, rfl⟩
      rw [hm] at hck hkl
      have hmk := fun W => make_one (P := Tryd.prog) Tryd.underlying23 infoB rfl m (m : Int) rfl (by omega) (by omega) W
      have kk : Blk (wr.alloc (.cells (Array.replicate m (Value.int .u8 0)) 5)) wr.heap.size 5 (List.replicate m (Value.int .u8 0)).toArray := by
        rw [List.toArray_replicate]
        exact Blk.new wr _ _
      have hb1 := hkk.alloc (.cells (Array.replicate m (Value.int .u8 0)) 5)
      have hs1 := hSr.below ((Below.refl wr.heap.size wr).alloc (Nat.le_refl _) (.cells (Array.replicate m (Value.int .u8 0)) 5))
      have hbx1 := hs1.box.cell 0
      rw [hM.out] at hbx1
      have hck1 := hs1.cellKey h8 hiN
      rw [hd] at hck1
      simp only [hm] at hck1
      replace hm := Lib.hid hm
      replace hz := Lib.hid hz
      replace hd := Lib.hid hd
      replace hpre := Lib.hid hpre
      replace hpx := Lib.hid hpx
      have i0i : (0 : Int) < (i : Int) := by omega
      have iMi : (i : Int) < (M : Int) := by omega
      replace hDS := Lib.hid hDS
      gi_wp2_with ((with_reducible refine wpListIn_copy_bs _ rfl (.tmp 37) (.tmp 45) 23 rfl hb1 Tryd.underlying23 size_u8 m cb hm.out wr.heap.size (.int .u8 0) kk rfl rfl ?_); intro w2 k2 hg2; have b2 : Below wr.heap.size wr w2 := ((Below.refl wr.heap.size wr).alloc (Nat.le_refl _) _).grown hg2 (by simp) (fun k e => by cases e; exact Nat.le_refl _); have hs2 := hSr.below b2; have hbx2 := hs2.box.cell 0; rw [hM.out] at hbx2; have hcn2 := hs2.cellNum h8 hiN; rw [hz.out] at hcn2; obtain ⟨fn, tmps, assign, body, hy, hRd⟩ := hY _ (kb, z) #[.slice (some ⟨wr.heap.size, 0, none⟩) m m, .int .i64 z] w2 (hJ _ _ _ none hJr (grown_below b2) (fun r e => by cases e)) hpx.out ⟨wr.heap.size, by simp only [hm.out], Nat.le_trans hBW hWr, k2, by simp only [hm.out]; exact hkl⟩)
      refine ⟨fun h => (by cases h), hRd.mono ?_⟩
      rintro e W3 (⟨rfl, hJ3, hk3⟩ | ⟨rfl, hJx3⟩)
      · have hb3 := (hbr.trans (b2.mono hbr.size)).trans hk3
        have hs3 := hS0.below hb3
        have hbx3 := hs3.box.cell 0
        rw [hM.out] at hbx3
        have hcx3 := hs3.cellNx h8 hiN (show 0 < 8 by omega)
        have hnx : nxOf N 0 i = S.head?.getD 0 := by
          have h1 := hRc
          rw [hDS.out] at h1
          have := Chain.mid h1
          rwa [List.headD_eq_head?_getD] at this
        rw [hnx] at hcx3
        replace hnx := Lib.hid hnx
        have hm1 : (R.dropWhile (fun x => x != i)).length = S.length + 1 := drop_split hDS.out hRn
        have hm2 : (R.dropWhile (fun x => x != S.head?.getD 0)).length ≤ S.length := by
          rcases S with _ | ⟨s, S⟩
          · have : R.dropWhile (fun x => x != ([] : List Nat).head?.getD 0) = [] := by
              refine dropWhile_all fun x hx => ?_
              have := (hRl x hx).1
              simp
              omega
            rw [this]
            simp
          · have := drop_split (A := R) (X := D ++ [i]) (a := s) (S := S) (by rw [hDS.out]; simp) hRn
            simp only [List.head?_cons, Option.getD_some, List.length_cons]
            omega
        replace hm1 := Lib.hid hm1
        replace hm2 := Lib.hid hm2
        gi_wp2
        go_roundw
        case rel => exact ⟨D ++ [i], S, by rw [hDS.out]; simp, rfl, by rw [hpre.out]; exact hJ3, hb3, Nat.le_trans hWr (Nat.le_trans b2.size hk3.size)⟩
        case measure => simp only [intOf, Int.toNat_natCast]; have := hm1.out; have := hm2.out; omega
      · gi_wp2
        refine bodyPost_ret (results_none rfl _ _ _) rfl ?_
        exact ⟨⟨_, rfl⟩, .inr ⟨_, hpx.out, hJx3⟩⟩

theorem index_tow (T : Nat → Nat) (W : World) : (Instr.index 51 (.agg #[.int .i64 (T 0 : Int), .int .i64 (T 1 : Int), .int .i64 (T 2 : Int), .int .i64 (T 3 : Int), .int .i64 (T 4 : Int), .int .i64 (T 5 : Int), .int .i64 (T 6 : Int), .int .i64 (T 7 : Int)]) (.int .i64 0)).run Tryd.prog W = .ok (.int .i64 (T 0 : Int)) W := by kernel_rfl
set_option maxRecDepth 100000 in
set_option maxHeartbeats 6400000 in
/-- From's function: the list and the key lie in boxes C and C + 1. -/
theorem fromIter_in (n l C base p g cap : Nat) (N : List Nd) (L : List Nat) (h : Nat → Nat) (I : Inv N L h) (M : Nat) (hM : N.length = M) (hM2 : M ≤ 1000000) (K : List UInt8) (A : Option Addr) (m c : Nat) (hm : K.length = m) (w0 : World) (hS0 : SkAt w0 base p g cap N)
    (J Jx : List (List UInt8 × Int) → World → Prop) (W : World) (B : Nat) (hBW : B ≤ W.heap.size) (hJ : AbidesFrom W.heap.size J)
    (hY : ∀ pre x vs W1, J pre W1 → pre ++ [x] <+: toldL N (restL N L K) → EncK2 B x vs W1 → YieldAt Fence.wide (n - 1) Tryd.prog l vs W1 fun e W' => (e = .returned (.bool true) ∧ J (pre ++ [x]) W' ∧ Below w0.heap.size W1 W') ∨ (e = .returned (.bool false) ∧ Jx (pre ++ [x]) W'))
    (hbW : Below w0.heap.size w0 W) (hb : Bs W A K) (hC : Boxed W C 25 (.pointer (some ⟨p, 0, none⟩))) (hD : Boxed W (C + 1) 23 (.slice A m c)) (h0 : J [] W) :
    CallsIn Fence.wide n Tryd.prog 27 #[.func (.yield l) #[] #[], .pointer (some ⟨C, 0, none⟩), .pointer (some ⟨C + 1, 0, none⟩)] W fun e W' => (∃ v, e = .returned v) ∧ (J (toldL N (restL N L K)) W' ∨ (∃ pre, pre <+: toldL N (restL N L K) ∧ Jx pre W')) := by
  have hS := hS0.below hbW
  have ht := there_yes W base p g cap N hS (by have := I.len; omega)
  have ha := ahead_any W.drew base p g cap N L h I hS.drew M hM hM2 K A m c hm hb
  have hbe := fun W1 (b : Below W.heap.size W W1) => callsIn_wide.1 (behind_in n l base p g cap N L h I M hM hM2 K w0 hS0 J Jx W1 B (Nat.le_trans hBW b.size) (fun s A B row hs hg hr => hJ s A B row hs hg (fun r e => ⟨Nat.le_trans b.size (hr r e).1, (hr r e).2⟩)) hY (hbW.trans (b.mono hbW.size)) (hJ _ _ _ none h0 (grown_below b) (fun r e => by cases e)) _ rfl)
  obtain ⟨T, hT⟩ : ∃ T, topOf N L h K = T := ⟨_, rfl⟩
  rw [hT, tow_lit] at ha
  rw [hT] at hbe
  have hcc := hC.cell
  have hcd := hD.cell
  have hlt1 := hC.lt
  have hlt2 := hD.lt
  have hix := index_tow T
  replace hbe := Lib.hid hbe
  replace hT := Lib.hid hT
  replace hM := Lib.hid hM
  replace hm := Lib.hid hm
  refine callsIn_wide.2 ?_
  go_enter Tryd.func27, Tryd.ntmps27
  go_wp2_with fail
  refine ht.mono ?_
  clear ht
  rintro _ _ ⟨rfl, rfl⟩
  go_wp2_with fail
  go_region_with (first
    | (go_at_call 18; refine ha.mono ?_; clear ha; rintro _ w1 ⟨rfl, b1⟩; have b1' : Below W.heap.size W w1 := (Below.refl W.heap.size W).drew.trans b1; have c1 : w1.cell? ⟨C, 0, none⟩ = some (.pointer (some ⟨p, 0, none⟩)) := (b1'.cell (p := ⟨C, 0, none⟩) hlt1).trans hcc)
    | (go_at_call 28; refine (hbe.out w1 b1').mono ?_; rintro _ w2 ⟨⟨v, rfl⟩, hpost⟩))
  all_goals
    go_wp2
    go_end0
    exact ⟨⟨_, rfl⟩, hpost⟩
end Go.Proofs.YtidnhcningkcaaaDoor
