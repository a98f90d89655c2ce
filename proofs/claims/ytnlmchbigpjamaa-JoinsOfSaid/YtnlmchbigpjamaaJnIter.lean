/- The walk of what joins.Of tells. -/
import Derived.Test.YtnlmchbigpjamaaJnOf
set_option linter.unusedSimpArgs false
set_option linter.unusedVariables false
namespace Go.Proofs.Ytnlmchbigpjamaa
open Go Go.RowKit Go.Shelf Herb Herb.Jn
attribute [local go_sem] Oper.semAt_some
theorem HpO.keepS {S : Nat → Prop} {w w' : World} {base q hi : Nat} {l : List En} (h : HpO w base q l) (hk : KeepBut S w w') (hb : Bd l base hi) (hs : ∀ k, base ≤ k → ¬ S k) : HpO w' base q l := by
  refine ⟨h.bq, ?_⟩
  rcases h.at_ with ⟨h1, h2⟩ | ⟨g, c, h1, h2, h3⟩
  · exact .inl ⟨h1, hk.blk h2 (hs q h.bq)⟩
  · exact .inr ⟨g, c, h1, h2, h3.keepB hk hb (hs q h.bq) (hs g h1) (fun k hk _ => hs k hk)⟩
theorem KeepBut.below_then {S : Nat → Prop} {w w' w'' : World} (h : KeepBut S w w') (hb : Below w.heap.size w' w'') : KeepBut S w w'' :=
  ⟨hb.os.trans h.os, hb.tape.trans h.tape, hb.output.trans h.output, Nat.le_trans h.size hb.size, fun k hk hn => (hb.block k hk).trans (h.block k hk hn)⟩
theorem FtAt.of_own {w : World} {base n c : Nat} {A : Option Addr} {fs : List Ft} (h : w.ownsRow base 44 6 (.slice A n c) n (ftC fs)) (hn : 0 < n) : FtAt w A fs ∧ n ≤ c ∧ ∀ a, A = some a → base ≤ a.block ∧ a.block < w.heap.size := by
  rcases h.2 with ⟨_, h1⟩ | ⟨g, cap, cur, hv, hb, hg, h1, h2, h3, h4⟩
  · omega
  · cases hv
    refine ⟨⟨g, 0, cur, (0, 0), rfl, hg, fun j u hu => ?_⟩, h1, fun a ha => ?_⟩
    · rw [← h4, List.getElem?_take] at hu
      split at hu
      · rw [Nat.zero_add]; simpa using hu
      · cases hu
    · cases ha
      exact ⟨hb, (Array.getElem?_eq_some_iff.1 hg).1⟩
/-- The heap in the second loop. -/
structure HpL (w : World) (q lo s : Nat) (es : List En) : Prop where
  box : ∃ A c, Blk w q 56 #[.slice A es.length c]
  at_ : es ≠ [] → ∃ g c, lo ≤ g ∧ g < s ∧ HpAt w q g c es
theorem HpO.toL {w : World} {base q s : Nat} {es : List En} (h : HpO w base q es) (hs : w.heap.size ≤ s) : HpL w q base s es := by
  rcases h.at_ with ⟨rfl, h2⟩ | ⟨g, c, h1, h2, h3⟩
  · exact ⟨⟨none, 0, h2⟩, fun e => absurd rfl e⟩
  · exact ⟨⟨_, c, h3.box⟩, fun _ => ⟨g, c, h1, by have := h3.lt; omega, h3⟩⟩
theorem HpL.keep {S : Nat → Prop} {w w' : World} {q lo s : Nat} {es : List En} (h : HpL w q lo s es) (hk : KeepBut S w w') (hb : Bd es lo s) (hq : lo ≤ q ∧ q < s) (hs : ∀ k, lo ≤ k → k < s → ¬ S k) : HpL w' q lo s es := by
  obtain ⟨A, c, hx⟩ := h.box
  refine ⟨⟨A, c, hk.blk hx (hs q hq.1 hq.2)⟩, fun hne => ?_⟩
  obtain ⟨g, c, h1, h2, h3⟩ := h.at_ hne
  exact ⟨g, c, h1, h2, h3.keepB hk hb (hs q hq.1 hq.2) (hs g h1 h2) hs⟩
theorem store6 {w : World} {g : Nat} {t : TypeId} {a0 a1 a2 a3 a4 a5 b0 b1 b2 b3 b4 b5 : Value} (h : Blk w g t #[a0, a1, a2, a3, a4, a5]) :
    Blk ((((((w.setCell ⟨g, 0, none⟩ b0).setCell ⟨g, 1, none⟩ b1).setCell ⟨g, 2, none⟩ b2).setCell ⟨g, 3, none⟩ b3).setCell ⟨g, 4, none⟩ b4).setCell ⟨g, 5, none⟩ b5) g t #[b0, b1, b2, b3, b4, b5] :=
  (((((h.store 0 b0).store 1 b1).store 2 b2).store 3 b3).store 4 b4).store 5 b5
theorem keep6 (w : World) (g : Nat) (b0 b1 b2 b3 b4 b5 : Value) : KeepBut (fun k => k = g) w ((((((w.setCell ⟨g, 0, none⟩ b0).setCell ⟨g, 1, none⟩ b1).setCell ⟨g, 2, none⟩ b2).setCell ⟨g, 3, none⟩ b3).setCell ⟨g, 4, none⟩ b4).setCell ⟨g, 5, none⟩ b5) :=
  (((((KeepBut.set_at w g 0 b0).trans (KeepBut.set_at _ g 1 b1)).trans (KeepBut.set_at _ g 2 b2)).trans (KeepBut.set_at _ g 3 b3)).trans (KeepBut.set_at _ g 4 b4)).trans (KeepBut.set_at _ g 5 b5)
theorem nil_nil (W : World) : (binOp .eql 32 .nilFunc .nilFunc).run Try.prog W = .ok (.bool true) W := by kernel_rfl
theorem func_nil (W : World) (k : FuncId) (x : Array Value) (y : Array Value) : (binOp .eql 32 (.func (.func k) x y) .nilFunc).run Try.prog W = .ok (.bool false) W := by kernel_rfl
set_option maxRecDepth 100000 in
set_option maxHeartbeats 6400000 in
theorem iter_seq (n : Nat) (w0 : World) (B : Nat) (A : Option Addr) (N c C : Nat) (qs : List (Option Sl)) (hN : qs.length = N) (hN2 : N ≤ 100000) (hB : Blk w0 B 25 #[.slice A N c]) (hBC : B ≠ C) (hr : Rd w0 1 A N (qs.map (sqV C))) (hAC : ∀ a, A = some a → 0 < N → a.block ≠ C) (hfs : SqFs w0 C qs) (hCw : C < w0.heap.size) (out : List Ft) (hM : Merge (qs.map sqF) out) (hol : out.length ≤ 1000000) :
    SeqM Fence.wide n Try.prog 21 #[] #[.pointer (some ⟨B, 0, none⟩)] EncF C (Cnt C) (dd out) w0 := by
  intro l J Jx W hl hk0 hc hJ hJx hY h0
  have hw0 := hk0.size
  obtain ⟨R, hR⟩ : ∃ R, qs.map sqF = R := ⟨_, rfl⟩
  have hRN : R.length = N := by rw [← hR, List.length_map, hN]
  rw [hR] at hM
  obtain ⟨W0, hW0⟩ : ∃ W0, W.alloc (.cells #[.slice none 0 0] 56) = W0 := ⟨_, rfl⟩
  have k0 : KeepBut (fun k => k = C) W W0 := by rw [← hW0]; exact (KeepBut.refl W).alloc _
  have hq0 : Blk W0 W.heap.size 56 #[.slice none 0 0] := by rw [← hW0]; exact Blk.new W _ _
  have hs0 : W0.heap.size = W.heap.size + 1 := by rw [← hW0]; simp
  have hH0 : HpO W0 W.heap.size W.heap.size [] := ⟨Nat.le_refl _, .inl ⟨rfl, hq0⟩⟩
  have hk1 : KeepBut (fun k => k = C ∨ w0.heap.size ≤ k) w0 W0 := hk0.trans (k0.weak (fun k _ e => .inl e))
  have hc0 : Cnt C W0 := Cnt.keep _ _ hc (by rw [← hW0]; exact (KeepBut.refl W).alloc _)
  have hB0 : Blk W0 B _ _ := hk1.blk hB (fun e => by have := hB.lt; rcases e with e | e <;> omega)
  have cB := hB0.cell
  replace hW0 := Lib.hid hW0
  replace hN := Lib.hid hN
  replace hR := Lib.hid hR
  replace hRN := Lib.hid hRN
  replace hs0 := Lib.hid hs0
  refine callsIn_of_wp Try.func21 rfl trivial ?_ rfl
  simp only [Try.ntmps21, List.size_toArray, List.length_cons, List.length_nil, Nat.reduceAdd, Nat.reduceSub, Array.replicate_succ, Array.replicate_zero, List.push_toArray, List.append_toArray, List.nil_append, List.cons_append]
  gi_wp2_with (first | rw [hW0.out] | fail)
  gi_loopw [12] (fun i wr => ∃ (k : Nat) (es : List En), k ≤ N ∧ i = .int .i64 (k : Int) ∧ es.length ≤ k ∧ HpO wr W.heap.size W.heap.size es ∧ IsHeap es es.length ∧ Rep es R k ∧ Bd es W.heap.size wr.heap.size ∧ KeepBut (fun k => k = C) W wr ∧ KeepBut (fun k => k = C ∨ w0.heap.size ≤ k) w0 wr ∧ Cnt C wr) (fun i _ => N - (intOf i).toNat)
  case atStart => exact ⟨0, [], by omega, rfl, by simp, hH0, fun k h1 h2 => by simp at h2, Rep.zero R, fun e he => (by cases he), k0, hk1, hc0⟩
  case round =>
    clear hH0 hq0 hB0 cB k0 hk1 hc0
    obtain ⟨k, es, hk, rfl, hlk, hH, hz, hrep, hbd, kW, kw, hcn⟩ := hrel
    have hBr : Blk wr B _ _ := kw.blk hB (fun e => by have := hB.lt; rcases e with e | e <;> omega)
    by_cases hlt : k < N
    · have hdk : decide (k < N) = true := by simpa using hlt
      obtain ⟨b, o, rfl, _, hcc⟩ := (Rd.but_lt hr hAC kw).at_ hlt
      have hck := hcc k (sqV C (qs[k]'(by rw [hN.out]; exact hlt))) (by rw [List.getElem?_map, List.getElem?_eq_getElem (by rw [hN.out]; exact hlt)]; rfl)
      obtain ⟨x, hx⟩ : ∃ x, qs[k]'(by rw [hN.out]; exact hlt) = x := ⟨_, rfl⟩
      have hRk : R[k]? = some (sqF x) := by rw [← hR.out, List.getElem?_map, List.getElem?_eq_getElem (by rw [hN.out]; exact hlt), hx]; rfl
      have hxm : x ∈ qs := by rw [← hx]; exact List.getElem_mem _
      rw [hx] at hck
      have hkk : (0 : Int) ≤ (k : Int) ∧ (k : Int) < (N : Int) := by omega
      clear hcc hx
      rcases x with _ | ⟨Ax, fx, cx⟩
      · have hsk := hrep.skip (by rw [hRk]; intro f t e; cases e)
        rw [show sqV C none = Value.nilFunc from rfl] at hck
        replace hsk := Lib.hid hsk
        replace hrep := Lib.hid hrep
        replace hRk := Lib.hid hRk
        have fnn := nil_nil wr
        gi_wp2_with (first | rw [fnn] | fail)
        go_roundw
        case rel => exact ⟨k + 1, es, by omega, by go_num, by omega, hH, hz, hsk.out, hbd, kW, kw, hcn⟩
        case measure => simp [intOf] <;> omega
      · rw [show sqV C (some ⟨Ax, fx, cx⟩) = .func (.func 10) #[.agg #[.slice Ax fx.length cx, .pointer (some ⟨C, 0, none⟩)]] #[] from rfl] at hck
        obtain ⟨f1, f2, f3⟩ := (hfs.keep kw) _ hxm
        obtain ⟨m, hm⟩ : ∃ m, fx.length = m := ⟨_, rfl⟩
        have hRk : R[k]? = some fx := hRk
        rw [hm] at hck f2 f3
        have pc := collectTell_any wr Ax m cx fx C hm f3 f1 f2 hcn
        replace hrep := Lib.hid hrep
        replace hRk := Lib.hid hRk
        replace hm := Lib.hid hm
        replace pc := Lib.hid pc
        clear f1 f2
        have fnn := func_nil wr 10 #[.agg #[.slice Ax m cx, .pointer (some ⟨C, 0, none⟩)]] #[]
        gi_wp2_with (first | rw [fnn] | fail)
        refine ⟨trivial, fun h => (by cases h), (callsIn_wide.2 pc.out).mono ?_⟩
        clear pc
        rintro _ w2 ⟨v, rfl, hown, k2, hcn2⟩
        obtain ⟨Av, cv, rfl⟩ := own_slice hown
        have kW2 := kW.trans k2
        have kw2 := kw.trans (k2.weak (S' := fun k => k = C ∨ w0.heap.size ≤ k) (fun k _ e => .inl e))
        have hH2 : HpO w2 W.heap.size W.heap.size es := hH.keepS k2 hbd (fun k hk e => by omega)
        have hWw : W.heap.size ≤ wr.heap.size := kW.size
        clear hH kW kw
        by_cases hm0 : m = 0
        · subst hm0
          have hsk := hrep.out.skip (by rw [hRk.out, List.eq_nil_of_length_eq_zero hm.out]; intro f t e; cases e)
          replace hsk := Lib.hid hsk
          gi_wp2
          go_roundw
          case rel => exact ⟨k + 1, es, by omega, by go_num, by omega, hH2, hz, hsk.out, fun e he a ha => ⟨(hbd e he a ha).1, Nat.lt_of_lt_of_le (hbd e he a ha).2 k2.size⟩, kW2, kw2, hcn2⟩
          case measure => simp [intOf] <;> omega
        · have hm1 : (0 : Int) < (m : Int) := by omega
          obtain ⟨hft, hmc, hAv⟩ := FtAt.of_own hown (by omega)
          have hfxne : fx ≠ [] := fun e => hm0 (by rw [← hm.out, e]; rfl)
          have pp := hpush_any w2 W.heap.size W.heap.size es hH2 (Nat.le_trans hWw k2.size) (by omega) hz hrep.out.ne ⟨Av, fx, cv, k⟩ hft hfxne (by show fx.length ≤ cv; rw [hm.out]; exact hmc)
          simp only [hm.out] at pp
          have hps := hrep.out.push ⟨Av, fx, cv, k⟩ rfl hRk.out hfxne
          replace pp := Lib.hid pp
          replace hps := Lib.hid hps
          clear hfxne hft hown
          gi_wp2_with fail
          refine ⟨trivial, fun h => (by cases h), (callsIn_wide.2 pp.out).mono ?_⟩
          clear pp
          rintro _ w3 ⟨⟨v3, rfl⟩, ⟨es', p3, z3, H3⟩, b3⟩
          have hlen3 := p3.length_eq
          simp only [List.length_append, List.length_cons, List.length_nil] at hlen3
          have hps3 := hps.out.perm p3
          have hbd3 : Bd es' W.heap.size w3.heap.size := fun e he a ha => by
            have h23 := b3.size
            have hr2 := k2.size
            rcases List.mem_append.1 (p3.subset he) with h | h
            · have := hbd e h a ha; omega
            · obtain rfl := List.mem_singleton.1 h
              have := hAv a ha
              omega
          have kW3 := KeepBut.below_then kW2 b3
          have kw3 := KeepBut.below_then kw2 (b3.mono hw0)
          have hcn3 : Cnt C w3 := by
            obtain ⟨z, hz'⟩ := hcn2
            exact ⟨z, hz'.below b3 (by omega)⟩
          replace hps3 := Lib.hid hps3
          replace hlen3 := Lib.hid hlen3
          gi_wp2
          go_roundw
          case rel => exact ⟨k + 1, es', by omega, by go_num, by have := hlen3.out; omega, H3, z3, hps3.out, hbd3, kW3, kw3, hcn3⟩
          case measure => simp [intOf] <;> omega
    · obtain rfl : k = N := by omega
      have hdk : decide (k < k) = false := by simp
      obtain ⟨Lb, hLb⟩ : ∃ Lb, wr.heap.size = Lb := ⟨_, rfl⟩
      obtain ⟨w4, hw4⟩ : ∃ w4, wr.alloc (.cells #[.string ⟨#[]⟩, .int .u32 0, .int .u64 0, .int .u64 0, .int .u8 0, .string ⟨#[]⟩] 44) = w4 := ⟨_, rfl⟩
      have kL4 : Blk w4 Lb 44 #[.string Ft.zero.k, .int .u32 (Ft.zero.va : Int), .int .u64 (Ft.zero.se : Int), .int .u64 (Ft.zero.li : Int), .int .u8 (Ft.zero.ki : Int), .string Ft.zero.v] := by rw [← hw4, ← hLb]; exact Blk.new wr _ _
      have k4 : ∀ S, KeepBut S wr w4 := fun S => by rw [← hw4]; exact (KeepBut.refl wr).alloc _
      have hs4 : w4.heap.size = Lb + 1 := by rw [← hw4, ← hLb]; simp
      have hWL : W.heap.size < Lb := by
        rw [← hLb]
        have := hH.slice
        obtain ⟨_, _, hx, _⟩ := this
        exact hx.lt
      have hbd4 : Bd es W.heap.size Lb := fun e he a ha => by have := hbd e he a ha; omega
      have hL4 : HpL w4 W.heap.size W.heap.size Lb es := (hH.toL (s := Lb) (by omega)).keep (k4 (fun _ => False)) hbd4 (by omega) (fun _ _ _ e => e)
      have hJ4 := h0 (Lb + 1) w4 (by omega) (by omega) (kW.trans (k4 _))
      have hcn4 : Cnt C w4 := Cnt.keep _ _ hcn (k4 _)
      have hCL : C < W.heap.size := by omega
      replace hw4 := Lib.hid hw4
      replace hLb := Lib.hid hLb
      clear hH kW kw hcn hBr hk0 h0 hc hB hr hAC hfs k4
      gi_wp2_with (first | rw [hLb.out] | fail)
      rw [hw4.out]
      obtain ⟨wo, rfl⟩ : ∃ wo : World, wo = wr := ⟨_, rfl⟩
      gi_loopw [8] (fun nn wt => ∃ (raw : List Ft) (R' : List (List Ft)) (rst : List Ft) (es : List En) (lf : Ft), nn = .int .i64 (raw.length : Int) ∧ Hid (out = raw ++ rst) ∧ Hid (Merge R' rst) ∧ Hid (R'.length = k) ∧ Hid (Rep es R' k) ∧ IsHeap es es.length ∧ es.length ≤ 100000 ∧ HpL wt W.heap.size W.heap.size Lb es ∧ Bd es W.heap.size Lb ∧ J (Lb + 1) (dd raw) wt ∧ Blk wt Lb 44 #[.string lf.k, .int .u32 (lf.va : Int), .int .u64 (lf.se : Int), .int .u64 (lf.li : Int), .int .u8 (lf.ki : Int), .string lf.v] ∧ Hid (raw ≠ [] → (dd raw).getLast? = some lf) ∧ Cnt C wt) (fun nn _ => out.length - (intOf nn).toNat)
      case atStart => exact ⟨[], R, out, es, Ft.zero, rfl, Lib.hid rfl, Lib.hid hM, hRN, Lib.hid hrep, hz, by omega, hL4, hbd4, hJ4, kL4, Lib.hid (fun e => absurd rfl e), hcn4⟩
      case round =>
        clear hL4 hbd4 hJ4 kL4 hcn4 hz hlk hbd hrep hs4
        obtain ⟨raw, R', rst, es, lf, hnn, ho, hme, hRl, hrep, hz, hle, hL, hbd, hj, kL, hlf, hcn⟩ := hrel
        obtain ⟨rl, hrl⟩ : ∃ rl, raw.length = rl := ⟨_, rfl⟩
        rw [hrl] at hnn
        subst hnn
        obtain ⟨Ax, cx, hbx⟩ := hL.box
        have cbx := hbx.cell
        rcases Nat.eq_zero_or_pos es.length with h0 | h0
        · have hes := List.eq_nil_of_length_eq_zero h0
          subst hes
          have hr0 := hrep.out.end_ hRl.out hme.out
          have ho2 := ho.out
          rw [hr0, List.append_nil] at ho2
          subst ho2
          gi_wp2
          go_end0
          exact ⟨⟨_, rfl⟩, hcn, .inl ⟨_, hj⟩⟩
        · obtain ⟨e, he⟩ : ∃ e, es.length = e + 1 := ⟨es.length - 1, by omega⟩
          obtain ⟨g, cg, hg1, hg2, hA⟩ := hL.at_ (fun e' => by rw [e'] at h0; simp at h0)
          have hpos : (0 : Int) < (e : Int) + 1 := by omega
          have hne := hrep.out.ne
          have ptk := take_any wr W.heap.size g cg es e he hA (by omega) (by rw [← he]; exact hz) (fun i hi => hne i (by omega))
          obtain ⟨rst2, hrs, hme2⟩ := hrep.out.next hRl.out hz h0 hme.out
          have hrepT := fun (es' : List En) hp => hrep.out.take (l' := es') h0 hp
          have hbdT := fun (es' : List En) hp => hbd.take (l' := es') h0 hp
          have hlenT : (rest es).length ≤ 100000 := by
            unfold rest
            rw [List.length_append, List.length_drop]
            split <;> simp <;> omega
          obtain ⟨f, hf⟩ : ∃ f, (at_ es 0).hd = f := ⟨_, rfl⟩
          rw [hf] at ptk hrs
          obtain ⟨R2, hR2⟩ : ∃ R2, R'.set (at_ es 0).pl (at_ es 0).fs.tail = R2 := ⟨_, rfl⟩
          rw [hR2] at hme2
          simp only [hR2] at hrepT
          have hRl2 : R2.length = k := by rw [← hR2, List.length_set]; exact hRl.out
          rw [he] at cbx
          have ho2 : out = (raw ++ [f]) ++ rst2 := by rw [ho.out, hrs]; simp
          have hpre : dd (raw ++ [f]) <+: dd out := by rw [ho2]; exact dd_prefix _ _
          have hdl : rl < out.length := by rw [ho2]; simp [hrl] <;> omega
          have hr1M : rl ≤ 1000000 := by omega
          replace hme2 := Lib.hid hme2
          replace hrepT := Lib.hid hrepT
          replace hbdT := Lib.hid hbdT
          replace hlenT := Lib.hid hlenT
          replace hRl2 := Lib.hid hRl2
          replace ho2 := Lib.hid ho2
          replace hpre := Lib.hid hpre
          replace ptk := Lib.hid ptk
          have hkA : ∀ (w' : World), KeepBut (fun b => b = W.heap.size ∨ b = g) wr w' → Blk w' Lb 44 _ ∧ J (Lb + 1) (dd raw) w' ∧ Cnt C w' := fun w' hk' =>
            ⟨hk'.blk kL (fun e' => by
              rcases e' with e' | e'
              · exact hbx.ne_ kL (by decide) e'.symm
              · obtain ⟨cs, r1, _⟩ := hA.row
                exact r1.ne_ kL (by decide) e'.symm), hJ _ _ _ _ hj (hk'.weak (fun b _ e' => .inr (by rcases e' with e' | e' <;> omega))), Cnt.keep _ _ hcn (hk'.weak (fun b _ e' => by rcases e' with e' | e' <;> omega))⟩
          replace hkA := Lib.hid hkA
          replace hf := Lib.hid hf
          replace hR2 := Lib.hid hR2
          replace he := Lib.hid he
          clear hrep hme hz hL hbd hj kL hcn hA hbx hRl hrs hne h0
          gi_wp2_with fail
          refine ⟨trivial, fun h => (by cases h), (callsIn_wide.2 ptk.out).mono ?_⟩
          clear ptk
          rintro _ w2 ⟨rfl, ⟨es2, p2, z2, H2⟩, k2⟩
          have hrep2 := hrepT.out es2 p2
          have hbd2 := hbdT.out es2 p2
          have hlen2 : es2.length ≤ 100000 := by rw [p2.length_eq]; exact hlenT.out
          obtain ⟨kL2, hj2, hcn2⟩ := hkA.out _ k2
          clear hkA p2 cbx
          obtain ⟨fk, fva, fse, fli, fki, fv⟩ := f
          obtain ⟨Fb, hFb⟩ : ∃ Fb, w2.heap.size = Fb := ⟨_, rfl⟩
          obtain ⟨w3, hw3⟩ : ∃ w3, w2.alloc (.cells #[.string fk, .int .u32 (fva : Int), .int .u64 (fse : Int), .int .u64 (fli : Int), .int .u8 (fki : Int), .string fv] 44) = w3 := ⟨_, rfl⟩
          have k3 : ∀ S, KeepBut S w2 w3 := fun S => by rw [← hw3]; exact (KeepBut.refl w2).alloc _
          have kF3 : Blk w3 Fb 44 #[.string fk, .int .u32 (fva : Int), .int .u64 (fse : Int), .int .u64 (fli : Int), .int .u8 (fki : Int), .string fv] := by rw [← hw3, ← hFb]; exact Blk.new w2 _ _
          have H3 : HpAt w3 W.heap.size g cg es2 := H2.keepB (k3 (fun _ => False)) hbd2 (fun e' => e') (fun e' => e') (fun _ _ _ e' => e')
          have kL3 : Blk w3 Lb _ _ := (k3 (fun _ => False)).blk kL2 (fun e' => e')
          have hj3 := hJ _ _ _ _ hj2 (k3 _)
          have hcn3 : Cnt C w3 := Cnt.keep _ _ hcn2 (k3 _)
          have hLF : Lb ≠ Fb := by have := kL2.lt; omega
          replace hw3 := Lib.hid hw3
          replace hFb := Lib.hid hFb
          have cF := kF3.cell
          have cL := kL3.cell
          have hLn3 : HpL w3 W.heap.size W.heap.size Lb es2 := ⟨⟨_, _, H3.box⟩, fun _ => ⟨g, cg, hg1, hg2, H3⟩⟩
          clear H2 kL2 hj2 hcn2 k2
          obtain ⟨lk, lva, lse, lli, lki, lv⟩ := lf
          simp only at kL3 cL
          have hgd : Try.prog.eqGuardType Try.prog.depth 44 = false := by kernel_rfl
          have heq := fun W => fact_eqv W ⟨fk, fva, fse, fli, fki, fv⟩ ⟨lk, lva, lse, lli, lki, lv⟩
          simp only [Ft.val] at heq
          have cLa : ∀ i, (w2.alloc (.cells #[.string fk, .int .u32 (fva : Int), .int .u64 (fse : Int), .int .u64 (fli : Int), .int .u8 (fki : Int), .string fv] 44)).cell? ⟨Lb, i, none⟩ = (#[.string lk, .int .u32 (lva : Int), .int .u64 (lse : Int), .int .u64 (lli : Int), .int .u8 (lki : Int), .string lv] : Array Value)[i]? := by rw [hw3.out]; exact kL3.cell
          by_cases hr0 : rl = 0
          · have hrn : raw = [] := List.eq_nil_of_length_eq_zero (by omega)
            have hnl : ¬ (dd raw).getLast? = some ⟨fk, fva, fse, fli, fki, fv⟩ := by rw [hrn]; intro e'; cases e'
            have d0 : decide (0 < rl) = false := by simp [hr0]
            clear heq cLa
            have hap : dd (raw ++ [⟨fk, fva, fse, fli, fki, fv⟩]) = dd raw ++ [⟨fk, fva, fse, fli, fki, fv⟩] := by
              rw [dd_snoc]
              unfold ddS
              rw [if_neg hnl]
            have hpx := hpre.out
            rw [hap] at hpx
            obtain ⟨w5, hw5⟩ : ∃ w5, (((((w3.setCell ⟨Lb, 0, none⟩ (.string fk)).setCell ⟨Lb, 1, none⟩ (.int .u32 (fva : Int))).setCell ⟨Lb, 2, none⟩ (.int .u64 (fse : Int))).setCell ⟨Lb, 3, none⟩ (.int .u64 (fli : Int))).setCell ⟨Lb, 4, none⟩ (.int .u8 (fki : Int))).setCell ⟨Lb, 5, none⟩ (.string fv) = w5 := ⟨_, rfl⟩
            have kL5 : Blk w5 Lb 44 #[.string fk, .int .u32 (fva : Int), .int .u64 (fse : Int), .int .u64 (fli : Int), .int .u8 (fki : Int), .string fv] := by rw [← hw5]; exact store6 kL3
            have k5 : KeepBut (fun b => b = Lb) w3 w5 := by rw [← hw5]; exact keep6 _ _ _ _ _ _ _ _
            have kF5 : Blk w5 Fb _ _ := k5.blk kF3 (fun e' => hLF e'.symm)
            have hL5 := hLn3.keep k5 hbd2 (by omega) (fun b h1 h2 e' => by omega)
            have hj5 := hJ _ _ _ _ hj3 (k5.weak (fun b _ e' => .inr (by omega)))
            have hcn5 := Cnt.keep _ _ hcn3 (k5.weak (fun b _ e' => by omega))
            have cF5 := kF5.cell
            have fL3 := kL3.frozen
            obtain ⟨fn, tmps, assign, body, hy, hRd⟩ := YieldAt.deep rfl (n - 1) (hY (Lb + 1) (dd raw) ⟨fk, fva, fse, fli, fki, fv⟩ #[Ft.val ⟨fk, fva, fse, fli, fki, fv⟩] w5 (by omega) hj5 hpx rfl)
            replace hw5 := Lib.hid hw5
            replace hap := Lib.hid hap
            replace hnl := Lib.hid hnl
            replace hrl := Lib.hid hrl
            clear hpx hj5 kF5 k5 hj3 hcn3 hLn3 H3 kF3
            gi_wp2_with (first | rw [hFb.out, hw3.out] | rw [hw5.out] | fail)
            refine ⟨fun h => (by cases h), hRd.mono ?_⟩
            rintro e6 W6 (⟨rfl, hj6, k6⟩ | ⟨rfl, hjx6, k6⟩)
            · have hL6 := hL5.keep k6 hbd2 (by omega) (fun b h1 h2 e' => e'.2 ⟨h1, by omega⟩)
              have kL6 := k6.blk kL5 (fun e' => e'.2 ⟨by omega, by omega⟩)
              have hcn6 := Cnt.keep _ _ hcn5 (k6.weak (fun b _ e' => by have := e'.1; omega))
              rw [← hap.out] at hj6
              clear hy hRd hL5 kL5 hcn5 cF5 fL3 cF cL kL3
              gi_wp2
              go_roundw
              case rel => exact ⟨raw ++ [⟨fk, fva, fse, fli, fki, fv⟩], R2, rst2, es2, ⟨fk, fva, fse, fli, fki, fv⟩, by simp [hrl.out, hr0], Lib.hid ho2.out, hme2, hRl2, Lib.hid hrep2, z2, hlen2, hL6, hbd2, hj6, kL6, Lib.hid (fun _ => by rw [hap.out]; simp), hcn6⟩
              case measure => simp [intOf] <;> omega
            · have hcn6 := Cnt.keep _ _ hcn5 (k6.weak (fun b _ e' => by have := e'.1; omega))
              rw [← hap.out] at hjx6
              clear hy hRd hL5 kL5 hcn5 cF5 fL3 cF cL kL3
              gi_wp2
              refine bodyPost_ret (results_none rfl _ _ _) rfl ?_
              exact ⟨⟨_, rfl⟩, hcn6, .inr ⟨_, _, hpre.out, hjx6⟩⟩
          · have hrn : raw ≠ [] := fun e' => by rw [e'] at hrl; exact hr0 hrl.symm
            have d0 : decide (0 < rl) = true := by simp; omega
            have hll := hlf.out hrn
            by_cases hfl : (⟨fk, fva, fse, fli, fki, fv⟩ : Ft) = ⟨lk, lva, lse, lli, lki, lv⟩
            · have hap : dd (raw ++ [⟨fk, fva, fse, fli, fki, fv⟩]) = dd raw := by
                rw [dd_snoc]
                unfold ddS
                rw [if_pos (by rw [hll, hfl])]
              simp only [decide_eq_true hfl] at heq
              rw [← hap] at hj3
              rw [← hap] at hll
              replace hap := Lib.hid hap
              replace hll := Lib.hid hll
              replace hrl := Lib.hid hrl
              replace hfl := Lib.hid hfl
              replace hrn := Lib.hid hrn
              clear kF3 H3
              gi_wp2
              go_roundw
              case rel =>
                rw [hw3.out]
                exact ⟨raw ++ [⟨fk, fva, fse, fli, fki, fv⟩], R2, rst2, es2, ⟨lk, lva, lse, lli, lki, lv⟩, by simp [hrl.out], Lib.hid ho2.out, hme2, hRl2, Lib.hid hrep2, z2, hlen2, hLn3, hbd2, hj3, kL3, Lib.hid (fun _ => hll.out), hcn3⟩
              case measure => simp [intOf] <;> omega
            · have hnl : ¬ (dd raw).getLast? = some ⟨fk, fva, fse, fli, fki, fv⟩ := by
                rw [hll]
                intro e'
                injection e' with e'
                exact hfl e'.symm
              simp only [decide_eq_false hfl] at heq
              replace hll := Lib.hid hll
              replace hfl := Lib.hid hfl
              replace hrn := Lib.hid hrn
              have hap : dd (raw ++ [⟨fk, fva, fse, fli, fki, fv⟩]) = dd raw ++ [⟨fk, fva, fse, fli, fki, fv⟩] := by
                rw [dd_snoc]
                unfold ddS
                rw [if_neg hnl]
              have hpx := hpre.out
              rw [hap] at hpx
              obtain ⟨w5, hw5⟩ : ∃ w5, (((((w3.setCell ⟨Lb, 0, none⟩ (.string fk)).setCell ⟨Lb, 1, none⟩ (.int .u32 (fva : Int))).setCell ⟨Lb, 2, none⟩ (.int .u64 (fse : Int))).setCell ⟨Lb, 3, none⟩ (.int .u64 (fli : Int))).setCell ⟨Lb, 4, none⟩ (.int .u8 (fki : Int))).setCell ⟨Lb, 5, none⟩ (.string fv) = w5 := ⟨_, rfl⟩
              have kL5 : Blk w5 Lb 44 #[.string fk, .int .u32 (fva : Int), .int .u64 (fse : Int), .int .u64 (fli : Int), .int .u8 (fki : Int), .string fv] := by rw [← hw5]; exact store6 kL3
              have k5 : KeepBut (fun b => b = Lb) w3 w5 := by rw [← hw5]; exact keep6 _ _ _ _ _ _ _ _
              have kF5 : Blk w5 Fb _ _ := k5.blk kF3 (fun e' => hLF e'.symm)
              have hL5 := hLn3.keep k5 hbd2 (by omega) (fun b h1 h2 e' => by omega)
              have hj5 := hJ _ _ _ _ hj3 (k5.weak (fun b _ e' => .inr (by omega)))
              have hcn5 := Cnt.keep _ _ hcn3 (k5.weak (fun b _ e' => by omega))
              have cF5 := kF5.cell
              have fL3 := kL3.frozen
              obtain ⟨fn, tmps, assign, body, hy, hRd⟩ := YieldAt.deep rfl (n - 1) (hY (Lb + 1) (dd raw) ⟨fk, fva, fse, fli, fki, fv⟩ #[Ft.val ⟨fk, fva, fse, fli, fki, fv⟩] w5 (by omega) hj5 hpx rfl)
              replace hw5 := Lib.hid hw5
              replace hap := Lib.hid hap
              replace hnl := Lib.hid hnl
              replace hrl := Lib.hid hrl
              clear hpx hj5 kF5 k5 hj3 hcn3 hLn3 H3 kF3
              gi_wp2_with (first | rw [hFb.out, hw3.out] | rw [hw5.out] | fail)
              refine ⟨fun h => (by cases h), hRd.mono ?_⟩
              rintro e6 W6 (⟨rfl, hj6, k6⟩ | ⟨rfl, hjx6, k6⟩)
              · have hL6 := hL5.keep k6 hbd2 (by omega) (fun b h1 h2 e' => e'.2 ⟨h1, by omega⟩)
                have kL6 := k6.blk kL5 (fun e' => e'.2 ⟨by omega, by omega⟩)
                have hcn6 := Cnt.keep _ _ hcn5 (k6.weak (fun b _ e' => by have := e'.1; omega))
                rw [← hap.out] at hj6
                clear hy hRd hL5 kL5 hcn5 cF5 fL3 cF cL kL3
                gi_wp2
                go_roundw
                case rel => exact ⟨raw ++ [⟨fk, fva, fse, fli, fki, fv⟩], R2, rst2, es2, ⟨fk, fva, fse, fli, fki, fv⟩, by simp [hrl.out], Lib.hid ho2.out, hme2, hRl2, Lib.hid hrep2, z2, hlen2, hL6, hbd2, hj6, kL6, Lib.hid (fun _ => by rw [hap.out]; simp), hcn6⟩
                case measure => simp [intOf] <;> omega
              · have hcn6 := Cnt.keep _ _ hcn5 (k6.weak (fun b _ e' => by have := e'.1; omega))
                rw [← hap.out] at hjx6
                clear hy hRd hL5 kL5 hcn5 cF5 fL3 cF cL kL3
                gi_wp2
                refine bodyPost_ret (results_none rfl _ _ _) rfl ?_
                exact ⟨⟨_, rfl⟩, hcn6, .inr ⟨_, _, hpre.out, hjx6⟩⟩
end Go.Proofs.Ytnlmchbigpjamaa
