/- From a walk to a row: for every law of the template 'it returns true, and each argument reads behind the call as it read before'. Arguments are opened by the 'open_..' lemmas; that they read as before follows from 'Below' for arguments of whatever type. -/
import Derived.ProofKit
import Derived.OpenShut
import Derived.ShutString
import Derived.ChangeOld
import Derived.SizedLaws
import Derived.Test.YtnlmchbigpjamaaBase
set_option linter.unusedSimpArgs false
set_option linter.unusedVariables false
namespace Herb
open Go Go.RowKit Go.ChangeShapes Go.WideShapes Go.ChangeAt

section
variable {H : Type} {enc : TypeId × Value → H}

/-- All arguments read behind the call as before it. -/
theorem trodAll_below {P : Program} (hl : laidOutB P = true) {W W' : World} (hb : Below W.heap.size W W') :
    ∀ {ts : List TypeId} {vs : List Value} {ds : List (DataW H)} {ps : List MemPlace}, ts.all (fun t => P.readableRec t && decide (t < P.types.size)) = true →
      DataW.TrodAll enc P W 0 (fun _ => true) true ts vs ds ps → (∀ x ∈ ps, x.block < W.heap.size) →
      DataW.TrodAll enc P W' 0 (fun b => decide (b < W.heap.size)) true ts vs ds ps
  | [], [], [], ps, _, h, _ => h
  | t :: ts, v :: vs, d :: ds, ps, hr, h, hlt => by
    simp only [List.all_cons, Bool.and_eq_true, decide_eq_true_eq] at hr
    obtain ⟨p, q, h0, h1, rfl⟩ := h
    refine ⟨p, q, Below.trod hl hr.1.1 hr.1.2 h0 hb (fun x hx => hlt x (by simp [hx])), trodAll_below hl hb ?_ h1 (fun x hx => hlt x (by simp [hx])), rfl⟩
    simpa using hr.2
  | [], _ :: _, _, _, _, h, _ => h.elim
  | _ :: _, [], _, _, _, h, _ => h.elim
  | [], [], _ :: _, _, _, h, _ => h.elim
  | _ :: _, _ :: _, [], _, _, h, _ => h.elim

theorem lifted_of {C : Checked} {os : Os} {F : FuncId} {fn : Func} {s : ChangeSpec} {conds : List PathCond} {tb : TypeId} {n : Nat}
    (own : ownKnob C.prog.godebug = none) (started : os.Started) (noInit : C.prog.inits.idxOf? F = none) (hfn : C.prog.funcs[F]? = some fn)
    (hl : laidOutB C.prog = true) (hr : fn.params.toList.all (fun t => C.prog.readableRec t && decide (t < C.prog.types.size)) = true)
    (hvars : s.vars = []) (hrt : fn.resultTypes = #[tb]) (hbool : C.prog.underlying tb = some .bool) (hn : fn.params.toList.length = n)
    (hspec : ∀ ds : List (DataW H), ds.length = n → (s.fn H ds).results = [.lit (.bool true)] ∧ (s.fn H ds).args = ds ∧ (s.fn H ds).vars = [])
    (witness : ∃ (w : World) (tape : Tape) (i : Input), w.os = os ∧ (w.forCall tape i).Shaped C.prog ∧ i.vars = [] ∧ Input.okWide C.prog (w.forCall tape i) .any w.heap.size F i ∧
      s.pre6 enc C.prog fn conds false (w.forCall tape i).memory i.args ∧ ({} : Assume).holds C.prog (lone (Frame.enter C.prog F i.args .normal) [] (w.forCall tape i)))
    (walk : ∀ (W : World) (base : Nat) (args : List Value) (ds : List (DataW H)) (before : List MemPlace),
      (∀ (j : Nat) t v, fn.params.toList[j]? = some t → args[j]? = some v → Value.okWide C.prog W .any base t v) →
      DataW.TrodAll enc C.prog W 0 (fun _ => true) true fn.params.toList args ds before →
      (DataW.weightsEach C.prog fn.params.toList ds).all (· ≤ reachBytes) = true →
      Calls C.prog F args.toArray W fun e W' => e = .returned (.bool true) ∧ Below W.heap.size W W') :
    ReturnsInHanded {} C os F .any (s.pre6 enc C.prog fn conds false) (s.post enc C.prog fn false true false false) := by
  refine returnsInHanded_of_change_sized own started noInit hfn witness ?_
  intro W base args ds gs before hval hW hcnd hsz _
  have hW' := hW
  obtain ⟨p, q, hA, hV, rfl, hfz, hnd⟩ := hW
  rw [hvars] at hV
  obtain ⟨rfl, rfl⟩ := trodVars_none hV
  have hA' := hA
  have hlen : ∀ {ts : List TypeId} {vs : List Value} {ds : List (DataW H)} {ps : List MemPlace}, DataW.TrodAll enc C.prog W 0 (fun _ => true) true ts vs ds ps → ds.length = ts.length := by
    intro ts
    induction ts with
    | nil => intro vs ds ps h; cases vs <;> cases ds <;> simp_all [DataW.TrodAll]
    | cons t ts ih =>
      intro vs ds ps h
      cases vs with
      | nil => exact h.elim
      | cons v vs =>
        cases ds with
        | nil => exact h.elim
        | cons d ds =>
          obtain ⟨_, _, _, h1, _⟩ := h
          simp [ih h1]
  have hd := hlen hA
  obtain ⟨e1, e2, e3⟩ := hspec ds (by rw [hd, hn])
  have hpv : s.plain.varTypes C.prog = [] := by
    simp [ChangeSpec.plain, DataSpec.varTypes, hvars]
  have hw := walk W base args.toList ds p (by simpa using hval) hA (by simpa [hpv] using hsz)
  rw [Array.toArray_toList] at hw
  refine hw.mono fun e W' ⟨he, hb⟩ => ⟨_, he, ?_⟩
  have hlt : ∀ x ∈ p, x.block < W.heap.size := fun x hx => by simpa using hW'.lt x (by simpa using hx)
  refine ⟨ds, [], p ++ [], [], p, [], hW', ?_, ?_, ?_, hb.frame _, fun h => by cases h⟩
  · simp only [List.append_nil, e1, hrt]
    exact trodAll_mk1 (shut_bool hbool _)
  · simp only [List.append_nil, e2]
    exact trodAll_below hl hb hr hA hlt
  · simp only [List.append_nil, e3, hvars]
    exact rfl
end

/-! ### the arguments -/
section
variable {H : Type} {enc : TypeId × Value → H} {P : Program} {W : World} {base b0 : Nat} {spare : Nat → Bool} {held : Bool} {r : Reach}

theorem intOf_wf_u8 {n : Int} (h : (Lit.int .u8 n).wf = true) : ∃ c : UInt8, n = (c.toNat : Int) := by
  simp [Lit.wf, IntKind.min, IntKind.max, IntKind.signed, IntKind.bits] at h
  refine ⟨UInt8.ofNat n.toNat, ?_⟩
  simp only [UInt8.toNat_ofNat']
  omega

/-- A []byte argument: a text that a slice of bytes holds. -/
theorem open_bytes {t e : TypeId} {v : Value} {d : DataW H} {ps : List MemPlace} (ht : P.underlying t = some (.slice e)) (he : P.underlying e = some (.int .u8)) (hce : P.cellsOf e = 1) (hbe : P.bytesOf e = 1)
    (hv : Value.okWide P W r b0 t v) (h : DataW.Trod enc P W 0 (fun _ => true) held t v d ps) :
    ∃ (A : Option Addr) (c : Nat) (l : List UInt8), v = .slice A l.length c ∧ Bs W A l ∧ l.length ≤ c ∧ (A = none → c = 0) ∧
      ∀ {ts : List TypeId} {ds : List (DataW H)}, (DataW.weightsEach P ts ds).all (· ≤ reachBytes) = true → ∀ (j : Nat), ts[j]? = some t → ds[j]? = some d → c ≤ reachBytes := by
  obtain ⟨a0, len0, cap0, rfl⟩ := okWide_slice ht hv
  obtain ⟨fuel, hf⟩ := h
  rcases open_ints ht he hce hf with ⟨hcs, hx⟩ | ⟨x, len, cap, zs, hcs, _, hl, hm, hz, hx, hcell, hwz⟩
  · simp [Value.cells] at hcs
    obtain ⟨rfl, rfl, rfl⟩ := hcs
    exact ⟨none, 0, [], rfl, Bs.nil_ _ _, Nat.le_refl _, fun _ => rfl, fun _ _ _ _ => Nat.zero_le _⟩
  · simp [Value.cells] at hcs
    obtain ⟨rfl, rfl, rfl⟩ := hcs
    have hz' : zs.length = cap0 := by simpa using hz
    have hall : ∃ l0 : List UInt8, zs = l0.map (fun c => (c.toNat : Int)) := by
      clear hz hx hcell hf hz'
      induction zs with
      | nil => exact ⟨[], rfl⟩
      | cons z zs ih =>
        obtain ⟨c, rfl⟩ := intOf_wf_u8 (hwz z (by simp))
        obtain ⟨l0, rfl⟩ := ih (fun n hn => hwz n (by simp [hn]))
        exact ⟨c :: l0, rfl⟩
    obtain ⟨l0, rfl⟩ := hall
    have hl0 : l0.length = cap0 := by simpa using hz'
    refine ⟨some x, cap0, l0.take len0, ?_, ?_, ?_, (fun h => by cases h), ?_⟩
    · rw [List.length_take, Nat.min_eq_left (by omega)]
    · have hlen : (l0.take len0).length = len0 := by rw [List.length_take, Nat.min_eq_left (by omega)]
      refine ⟨by simp [bvs_length], fun hn => ?_⟩
      obtain ⟨b, off, spot⟩ := x
      have h0 := hcell 0 (by simp; omega)
      have hspot : spot = none := by simpa [Addr.add] using World.cell?_spot h0
      subst hspot
      have hblt : b < W.heap.size := by
        have := World.block_lt_of_cell? W _ h0
        simpa [Addr.add] using this
      refine ⟨b, off, rfl, hblt, fun j u hu => ?_⟩
      have hj : j < (l0.take len0).length := by
        rcases Nat.lt_or_ge j (l0.take len0).length with h | h
        · exact h
        · rw [List.getElem?_eq_none (by rw [bvs_length]; exact h)] at hu; cases hu
      rw [bvs_get hj] at hu
      have hj2 : j < l0.length := by omega
      have hc := hcell j (by simpa using hj2)
      rw [add_eq] at hc
      rw [hc]
      simp only [Option.some.injEq] at hu
      rw [← hu]
      simp [bv, List.getD, hj2]
    · rw [List.length_take]; omega
    · intro ts ds hw j hjt hjd
      have hd : d = .slice _ _ := congrArg Prod.fst hx
      rw [hd] at hjd
      have := sized_slice hw hjt hjd ht
      rw [hbe] at this
      simp [lits] at this
      omega
/-- Number arguments. -/
theorem open_u8 {t : TypeId} {v : Value} {d : DataW H} {ps : List MemPlace} (ht : P.underlying t = some (.int .u8)) (hv : Value.okWide P W r b0 t v) (h : DataW.Trod enc P W 0 spare held t v d ps) :
    ∃ s : Nat, v = .int .u8 (s : Int) ∧ s < 256 := by
  obtain ⟨x, rfl, rfl, rfl, wx⟩ := open_int ht hv h
  simp [Lit.wf, IntKind.min, IntKind.max, IntKind.signed, IntKind.bits] at wx
  exact ⟨x.toNat, by rw [Int.toNat_of_nonneg wx.1], by omega⟩
theorem open_u16 {t : TypeId} {v : Value} {d : DataW H} {ps : List MemPlace} (ht : P.underlying t = some (.int .u16)) (hv : Value.okWide P W r b0 t v) (h : DataW.Trod enc P W 0 spare held t v d ps) :
    ∃ s : Nat, v = .int .u16 (s : Int) ∧ s < 65536 := by
  obtain ⟨x, rfl, rfl, rfl, wx⟩ := open_int ht hv h
  simp [Lit.wf, IntKind.min, IntKind.max, IntKind.signed, IntKind.bits] at wx
  exact ⟨x.toNat, by rw [Int.toNat_of_nonneg wx.1], by omega⟩
theorem open_u32 {t : TypeId} {v : Value} {d : DataW H} {ps : List MemPlace} (ht : P.underlying t = some (.int .u32)) (hv : Value.okWide P W r b0 t v) (h : DataW.Trod enc P W 0 spare held t v d ps) :
    ∃ s : Nat, v = .int .u32 (s : Int) ∧ s < 4294967296 := by
  obtain ⟨x, rfl, rfl, rfl, wx⟩ := open_int ht hv h
  simp [Lit.wf, IntKind.min, IntKind.max, IntKind.signed, IntKind.bits] at wx
  exact ⟨x.toNat, by rw [Int.toNat_of_nonneg wx.1], by omega⟩
theorem open_u64 {t : TypeId} {v : Value} {d : DataW H} {ps : List MemPlace} (ht : P.underlying t = some (.int .u64)) (hv : Value.okWide P W r b0 t v) (h : DataW.Trod enc P W 0 spare held t v d ps) :
    ∃ s : Nat, v = .int .u64 (s : Int) ∧ s < 18446744073709551616 := by
  obtain ⟨x, rfl, rfl, rfl, wx⟩ := open_int ht hv h
  simp [Lit.wf, IntKind.min, IntKind.max, IntKind.signed, IntKind.bits] at wx
  exact ⟨x.toNat, by rw [Int.toNat_of_nonneg wx.1], by omega⟩
theorem open_i64 {t : TypeId} {v : Value} {d : DataW H} {ps : List MemPlace} (ht : P.underlying t = some (.int .i64)) (hv : Value.okWide P W r b0 t v) (h : DataW.Trod enc P W 0 spare held t v d ps) :
    ∃ x : Int, v = .int .i64 x ∧ -9223372036854775808 ≤ x ∧ x ≤ 9223372036854775807 := by
  obtain ⟨x, rfl, rfl, rfl, wx⟩ := open_int ht hv h
  simp [Lit.wf, IntKind.min, IntKind.max, IntKind.signed, IntKind.bits] at wx
  exact ⟨x, rfl, by omega, by omega⟩
/-- A string argument. -/
theorem open_str {t : TypeId} {v : Value} {d : DataW H} {ps : List MemPlace} (ht : P.underlying t = some .string) (hv : Value.okWide P W r b0 t v) (h : DataW.Trod enc P W 0 spare held t v d ps) :
    ∃ s : ByteArray, v = .string s ∧ ∀ {ts : List TypeId} {ds : List (DataW H)}, (DataW.weightsEach P ts ds).all (· ≤ reachBytes) = true → ∀ (j : Nat), ts[j]? = some t → ds[j]? = some d → s.size ≤ reachBytes := by
  obtain ⟨s, rfl, rfl, rfl, hs⟩ := Go.ChangeMaps.open_string ht hv h
  refine ⟨s, rfl, fun hw j hjt hjd => ?_⟩
  have := sized_string hw hjt hjd
  simpa using this
end
end Herb
