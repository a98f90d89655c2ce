/- The document's mem (herbariumref09) in memory: walks of New, Put, Bytes, From. -/
import Derived.Test.YtdifdbkbpeanhaaDoorMemPlay
import Derived.Test.YtdifdbkbpeanhaaDoorKeyRefPut
import Derived.Test.YtdifdbkbpeanhaaDoorMg4
import Derived.Test.YtdifdbkbpeanhaaDoorKeyMay
import Derived.Test.YtdifdbkbpeanhaaDoorMemCol
import Derived.Test.YtdifdbkbpeanhaaDoorMg1
import Derived.BigQuiet
import Derived.Deep.RegionHeld3
import Derived.Deep.RegionWith
set_option linter.unusedSimpArgs false
set_option linter.unusedVariables false
namespace Go.Proofs.YtdifdbkbpeanhaaDoor
open Go Go.RowKit Herb

/-- The document's mem at r. -/
structure RefAt (w : World) (base r : Nat) (A : Option Addr) (c : Nat) (L : List Ft) (no : Bool) : Prop where
  box : Blk w r 38 #[.slice A L.length c, .bool no]
  row : w.ownsRow base 27 6 (.slice A L.length c) L.length (ftC L)
  rb : base ≤ r
/-- Its blocks. -/
def refS (r : Nat) (A : Option Addr) (n c : Nat) : Nat → Prop := fun k => k = r ∨ (Value.slice A n c).ownBlock = some k
section
variable {w w' : World} {base r c : Nat} {A : Option Addr} {L : List Ft} {no : Bool}
theorem RefAt.below (h : RefAt w base r A c L no) (hb : Below w.heap.size w w') : RefAt w' base r A c L no :=
  ⟨h.box.below hb h.box.lt, h.row.kept (row := none) ⟨hb.os, hb.tape, hb.output, hb.size, fun k hk _ => hb.block k hk⟩ (by cases (Value.slice A L.length c).ownBlock <;> simp), h.rb⟩
theorem RefAt.keep {S : Nat → Prop} (h : RefAt w base r A c L no) (hk : KeepBut S w w') (hn : ∀ k, refS r A L.length c k → ¬ S k) : RefAt w' base r A c L no :=
  ⟨(hk.block r h.box.lt (hn r (.inl rfl))).trans h.box, own_keep h.row hk (fun k e => hn k (.inr e)), h.rb⟩
theorem RefAt.facts (h : RefAt w base r A c L no) : Fs w A L := Rd.of_own h.row
theorem RefAt.blocks (h : RefAt w base r A c L no) {k : Nat} (hk : refS r A L.length c k) : base ≤ k ∧ k < w.heap.size := by
  rcases hk with rfl | hk
  · exact ⟨h.rb, h.box.lt⟩
  · obtain ⟨h1, h2, _⟩ := own_ty h.row hk
    exact ⟨h1, h2⟩
end

theorem rnew_any (w : World) : Calls Tryd.prog 7 #[] w fun e w' => e = .returned (.pointer (some ⟨w.heap.size, 0, none⟩)) ∧ RefAt w' w.heap.size w.heap.size none 0 [] false ∧ Below w.heap.size w w' := by
  go_enter Tryd.func7, Tryd.ntmps7
  go_wp2
  go_ret
  exact ⟨rfl, ⟨Blk.new w _ _, World.ownsRow_nil _ _ _ _, Nat.le_refl _⟩, (Below.refl _ _).alloc (Nat.le_refl _) _⟩

/-- From: the facts that do not stand ahead. -/
theorem filter_take_succ {α : Type} (p : α → Bool) (l : List α) (k : Nat) (h : k < l.length) : (l.take (k + 1)).filter p = (l.take k).filter p ++ (if p l[k] then [l[k]] else []) := by
  rw [List.take_succ_eq_append_getElem h, List.filter_append]
  congr 1
  cases hp : p l[k] <;> simp [hp]

set_option maxRecDepth 100000 in
set_option maxHeartbeats 1600000 in
theorem rfrom_any (w : World) (base r c : Nat) (A : Option Addr) (L : List Ft) (no : Bool) (h : RefAt w base r A c L no) (hL : L.length ≤ 100000) (key : ByteArray) (va : Nat) :
    Calls Tryd.prog 15 #[.pointer (some ⟨r, 0, none⟩), .string key, .int .u32 (va : Int)] w fun e w' => ∃ v, e = .returned v ∧ w'.ownsRow w.heap.size 27 6 v (fromT L key va).length (ftC (fromT L key va)) ∧ Below w.heap.size w w' := by
  obtain ⟨n, hn⟩ : ∃ n, L.length = n := ⟨_, rfl⟩
  obtain ⟨p, hp⟩ : ∃ p : Ft → Bool, p = fun f => less key.toList f.k.toList || (decide (f.k = key) && decide (f.va ≤ va)) := ⟨_, rfl⟩
  have hfr : fromT L key va = L.filter p := by rw [hp]; rfl
  rw [hfr]
  have hbx := h.box
  have hF := h.facts
  have hlt := h.box.lt
  rw [hn] at hbx hL
  replace hp := Lib.hid hp
  go_enter Tryd.func15, Tryd.ntmps15
  go_wp2
  go_loopw [7, 8] (fun v i wr => ∃ k : Nat, k ≤ n ∧ i = .int .i64 (k : Int) ∧ wr.ownsRow w.heap.size 27 6 v ((L.take k).filter p).length (ftC ((L.take k).filter p)) ∧ Below w.heap.size w wr) (fun _ i _ => n - (intOf i).toNat)
  case atStart => exact ⟨0, by omega, rfl, World.ownsRow_nil _ _ _ _, Below.refl _ _⟩
  case round =>
    obtain ⟨k, hk, rfl, hrow, hB⟩ := hrel
    have cb := (hbx.below hB hlt).cell
    by_cases hkn : k < n
    · have hkL : k < L.length := by omega
      obtain ⟨b, off, rfl, hbb, hc⟩ := Fs.at_ (hF.below hB) hkL
      obtain ⟨c0, c1, c2, c3, c4, c5⟩ := hc k hkL
      have hts := filter_take_succ p L k hkL
      have hpk : p L[k] = (less key.toList L[k].k.toList || (decide (L[k].k = key) && decide (L[k].va ≤ va))) := by rw [hp.out]
      have hfl : ((L.take k).filter p).length ≤ k := Nat.le_trans (List.length_filter_le _ _) (List.length_take_le _ _)
      generalize L[k] = f at c0 c1 c2 c3 c4 c5 hts hpk
      obtain ⟨fk, fva, fse, fli, fki, fv⟩ := f
      simp only at c0 c1 c2 c3 c4 c5 hpk
      replace hc := Lib.hid hc
      replace hts := Lib.hid hts
      replace hn := Lib.hid hn
      have hdk : decide (k < n) = true := by simpa using hkn
      generalize (L.take k).filter p = xs at hrow hfl hts
      have yes : p ⟨fk, fva, fse, fli, fki, fv⟩ = true → ∀ (v2 : Value) (w2 : World), w2.ownsRow w.heap.size 27 6 v2 (xs.length + 1) (ftC xs ++ ftC [⟨fk, fva, fse, fli, fki, fv⟩]) → w2.ownsRow w.heap.size 27 6 v2 ((L.take (k + 1)).filter p).length (ftC ((L.take (k + 1)).filter p)) := by
        intro hpt v2 w2 ho
        rw [hts.out, if_pos hpt, List.length_append, ftC_append]
        exact ho
      have no : p ⟨fk, fva, fse, fli, fki, fv⟩ = false → (L.take (k + 1)).filter p = xs := by
        intro hpf
        rw [hts.out, hpf, if_neg (by simp), List.append_nil]
      replace yes := Lib.hid yes
      replace no := Lib.hid no
      clear hts hp hfr hbx hF hc hbb
      rcases str_tri key fk with h1 | rfl | h1
      · have hpt : p ⟨fk, fva, fse, fli, fki, fv⟩ = true := by rw [hpk, h1]; rfl
        replace hpk := Lib.hid hpk
        replace hpt := Lib.hid hpt
        have h2 : Op.bytesLess fk.toList key.toList = false := less_asymm h1
        have hne : fk ≠ key := by rintro rfl; rw [less_irrefl] at h1; cases h1
        have hne2 : ¬ fk.toList = key.toList := fun e => hne (toList_inj e)
        replace hne := Lib.hid hne
        clear h1
        have hR : Rd ((wr.alloc (.cells #[.string fk, .int .u32 (fva : Int), .int .u64 (fse : Int), .int .u64 (fli : Int), .int .u8 (fki : Int), .string fv] 27)).alloc (.cells #[.string fk, .int .u32 (fva : Int), .int .u64 (fse : Int), .int .u64 (fli : Int), .int .u8 (fki : Int), .string fv] 27)) 6 (some ⟨wr.heap.size + 1, 0, none⟩) 1 (ftC [⟨fk, fva, fse, fli, fki, fv⟩]) := by have := Rd.ft (wr.alloc (.cells #[.string fk, .int .u32 (fva : Int), .int .u64 (fse : Int), .int .u64 (fli : Int), .int .u8 (fki : Int), .string fv] 27)) 27 ⟨fk, fva, fse, fli, fki, fv⟩; rwa [World.size_alloc] at this
        go_wp2_with (at_builtin; refine wpList_app _ rfl (.tmp 42) (.tmp 44) rfl Tryd.underlying36 ftInfo rfl (by decide) ((hrow.alloc (.cells #[.string fk, .int .u32 (fva : Int), .int .u64 (fse : Int), .int .u64 (fli : Int), .int .u8 (fki : Int), .string fv] 27)).alloc (.cells #[.string fk, .int .u32 (fva : Int), .int .u64 (fse : Int), .int .u64 (fli : Int), .int .u8 (fki : Int), .string fv] 27)) rfl _ 1 1 hR rfl (ftC_one [⟨fk, fva, fse, fli, fki, fv⟩]) (by unfold maxLen; omega) (by omega) (by have := hB.size; simp; omega) ?_; intro v2 w2 hown2 hgrow2 _; have b2 : Below w.heap.size w w2 := below_app ((hB.alloc hB.size _).alloc (by have := hB.size; simp; omega) _) ((hrow.alloc _).alloc _) (Nat.le_refl _) (by have := hB.size; simp; omega) hgrow2)
        go_roundw
        case rel => exact ⟨k + 1, by omega, by go_num, yes.out hpt.out _ _ hown2, b2⟩
        case measure => simp [intOf] <;> omega
      · have h2 : Op.bytesLess key.toList key.toList = false := less_irrefl _
        rw [show less key.toList key.toList = false from h2] at hpk
        by_cases hv : fva ≤ va
        · have hpt : p ⟨key, fva, fse, fli, fki, fv⟩ = true := by rw [hpk]; simp [hv]
          have dv : decide ((fva : Int) ≤ (va : Int)) = true := decide_eq_true (by omega)
          replace hpk := Lib.hid hpk
          replace hpt := Lib.hid hpt
          have hR : Rd ((wr.alloc (.cells #[.string key, .int .u32 (fva : Int), .int .u64 (fse : Int), .int .u64 (fli : Int), .int .u8 (fki : Int), .string fv] 27)).alloc (.cells #[.string key, .int .u32 (fva : Int), .int .u64 (fse : Int), .int .u64 (fli : Int), .int .u8 (fki : Int), .string fv] 27)) 6 (some ⟨wr.heap.size + 1, 0, none⟩) 1 (ftC [⟨key, fva, fse, fli, fki, fv⟩]) := by have := Rd.ft (wr.alloc (.cells #[.string key, .int .u32 (fva : Int), .int .u64 (fse : Int), .int .u64 (fli : Int), .int .u8 (fki : Int), .string fv] 27)) 27 ⟨key, fva, fse, fli, fki, fv⟩; rwa [World.size_alloc] at this
          go_wp2_with (at_builtin; refine wpList_app _ rfl (.tmp 42) (.tmp 44) rfl Tryd.underlying36 ftInfo rfl (by decide) ((hrow.alloc (.cells #[.string key, .int .u32 (fva : Int), .int .u64 (fse : Int), .int .u64 (fli : Int), .int .u8 (fki : Int), .string fv] 27)).alloc (.cells #[.string key, .int .u32 (fva : Int), .int .u64 (fse : Int), .int .u64 (fli : Int), .int .u8 (fki : Int), .string fv] 27)) rfl _ 1 1 hR rfl (ftC_one [⟨key, fva, fse, fli, fki, fv⟩]) (by unfold maxLen; omega) (by omega) (by have := hB.size; simp; omega) ?_; intro v2 w2 hown2 hgrow2 _; have b2 : Below w.heap.size w w2 := below_app ((hB.alloc hB.size _).alloc (by have := hB.size; simp; omega) _) ((hrow.alloc _).alloc _) (Nat.le_refl _) (by have := hB.size; simp; omega) hgrow2)
          go_roundw
          case rel => exact ⟨k + 1, by omega, by go_num, yes.out hpt.out _ _ hown2, b2⟩
          case measure => simp [intOf] <;> omega
        · have hpt : p ⟨key, fva, fse, fli, fki, fv⟩ = false := by rw [hpk]; simp [hv]
          have dv : decide ((fva : Int) ≤ (va : Int)) = false := decide_eq_false (by omega)
          have hno := no.out hpt
          replace hpk := Lib.hid hpk
          replace hpt := Lib.hid hpt
          replace hno := Lib.hid hno
          go_wp2
          go_roundw
          case rel => exact ⟨k + 1, by omega, by go_num, by rw [hno.out]; exact hrow.alloc _, hB.alloc hB.size _⟩
          case measure => simp [intOf] <;> omega
      · have h2 : Op.bytesLess key.toList fk.toList = false := less_asymm h1
        have hne : fk ≠ key := by rintro rfl; rw [less_irrefl] at h1; cases h1
        have hne2 : ¬ fk.toList = key.toList := fun e => hne (toList_inj e)
        have hpt : p ⟨fk, fva, fse, fli, fki, fv⟩ = false := by rw [hpk, show less key.toList fk.toList = false from h2]; simp [hne]
        have hno := no.out hpt
        replace hpk := Lib.hid hpk
        replace hpt := Lib.hid hpt
        replace hno := Lib.hid hno
        replace hne := Lib.hid hne
        unfold less at h1
        clear h2
        go_wp2
        go_roundw
        case rel => exact ⟨k + 1, by omega, by go_num, by rw [hno.out]; exact hrow.alloc _, hB.alloc hB.size _⟩
        case measure => simp [intOf] <;> omega
    · obtain rfl : k = n := by omega
      have hdk : decide (k < k) = false := by simp
      rw [List.take_of_length_le (by omega)] at hrow
      go_wp2
      go_ret
      exact ⟨_, rfl, hrow, hB⟩

set_option maxRecDepth 100000 in
set_option maxHeartbeats 1600000 in
theorem rbytes_any (w : World) (base r c : Nat) (A : Option Addr) (L : List Ft) (no : Bool) (h : RefAt w base r A c L no) (hL : L.length ≤ 1000) (hall : ∀ f ∈ L, f.fit ∧ mayB f.k f.se f.ki = true ∧ f.v.size ≤ 1000) :
    Calls Tryd.prog 13 #[.pointer (some ⟨r, 0, none⟩)] w fun e w' => e = .returned (.int .i64 (sizesT L : Int)) ∧ Below w.heap.size w w' := by
  obtain ⟨n, hn⟩ : ∃ n, L.length = n := ⟨_, rfl⟩
  have hbx := h.box
  have hF := h.facts
  have hlt := h.box.lt
  rw [hn] at hbx hL
  clear h
  replace hall := Lib.hid hall
  go_enter Tryd.func13, Tryd.ntmps13
  go_wp2
  go_loopw [3, 4] (fun v i wr => ∃ k m : Nat, k ≤ n ∧ i = .int .i64 (k : Int) ∧ v = .int .i64 (m : Int) ∧ Hid (sizesT (L.take k) = m) ∧ m ≤ k * 2000 ∧ Below w.heap.size w wr) (fun _ i _ => n - (intOf i).toNat)
  case atStart => exact ⟨0, 0, by omega, rfl, rfl, Lib.hid rfl, by omega, Below.refl _ _⟩
  case round =>
    obtain ⟨k, m, hk, rfl, rfl, hm, hm2, hB⟩ := hrel
    have cb := (hbx.below hB hlt).cell
    by_cases hkn : k < n
    · have hkL : k < L.length := by omega
      obtain ⟨b, off, rfl, hbb, hc⟩ := Fs.at_ (hF.below hB) hkL
      obtain ⟨c0, c1, c2, c3, c4, c5⟩ := hc k hkL
      obtain ⟨hfit, hmay, hvs⟩ := hall.out _ (List.getElem_mem hkL)
      have hts : sizesT (L.take (k + 1)) = m + ((keyF L[k]).length + L[k].v.size) := by
        rw [List.take_succ_eq_append_getElem hkL, sizesT_append, hm.out, sizesT_cons]
        simp [sizesT]
      have hkl := keyF_len hmay
      obtain ⟨f, hLk⟩ : ∃ f, L[k] = f := ⟨_, rfl⟩
      rw [hLk] at c0 c1 c2 c3 c4 c5 hts hfit hmay hvs hkl
      obtain ⟨fk, fva, fse, fli, fki, fv⟩ := f
      simp only at c0 c1 c2 c3 c4 c5 hmay hvs
      have hdk : decide (k < n) = true := by simpa using hkn
      have pc := refPut_yes wr fk fv fva fse fli fki hfit.1 hfit.2.1 hfit.2.2.2 hmay
      obtain ⟨x, hx⟩ : ∃ x, (Herb.putL fk fva fse fki).length = x := ⟨_, rfl⟩
      have hx' : (keyF ⟨fk, fva, fse, fli, fki, fv⟩).length = x := hx
      rw [hx'] at hts hkl
      rw [hx] at pc
      simp only at hts
      replace hc := Lib.hid hc
      replace hts := Lib.hid hts
      replace hx := Lib.hid hx
      replace hx' := Lib.hid hx'
      replace hLk := Lib.hid hLk
      replace hn := Lib.hid hn
      replace pc := Lib.hid pc
      clear hmay hfit hbb
      have hF2 := hF.below hB
      go_wp2_with fail
      refine pc.out.mono ?_
      clear pc c0 c1 c2 c3 c4 c5 cb
      rintro _ w2 ⟨A2, n2, c2, rfl, e2, _, b2⟩
      have hB2 := hB.trans (b2.mono hB.size)
      have cb := (hbx.below hB2 hlt).cell
      obtain ⟨b', off', he, _, hc'⟩ := Fs.at_ (hF2.below b2) hkL
      cases he
      obtain ⟨_, _, _, _, _, c5⟩ := hc' k hkL
      rw [hLk.out] at c5
      simp only at c5
      replace hc' := Lib.hid hc'
      subst e2
      go_wp2
      go_roundw
      case rel => exact ⟨k + 1, m + (x + fv.size), by omega, by go_num, by go_num, Lib.hid hts.out, by omega, hB2⟩
      case measure => simp [intOf] <;> omega
    · obtain rfl : k = n := by omega
      have hdk : decide (k < k) = false := by simp
      have hme : sizesT L = m := by
        have := hm.out
        rwa [List.take_of_length_le (by omega)] at this
      replace hme := Lib.hid hme
      go_wp2
      go_ret
      exact ⟨by rw [hme.out]; rfl, hB⟩

/-- Cuts of a row of elements of so many cells. -/
theorem run_cutZ_to {P : Program} {t e : TypeId} {z : Nat} (ht : P.underlying t = some (.slice e)) (hs : (P.info? e).map (·.size) = some z) (A : Option Addr) (n c k : Nat) (hk : k ≤ c) (W : World) :
    (Instr.slice t (.slice A n c) none (some (.int .i64 (k : Int))) none).run P W = .ok (.slice (cutZ z A c 0) k c) W := by
  obtain ⟨i, hi, hz⟩ : ∃ i, P.info? e = some i ∧ i.size = z := by
    cases h : P.info? e with
    | none => simp [h] at hs
    | some i => exact ⟨i, rfl, by simpa [h] using hs⟩
  have h1 : max (k : Int) 0 = (k : Int) := by omega
  unfold Instr.slice cutZ
  simp [run_underlying ht, Go.sizeOf, typeInfo, hi, hz, Instr.sliceBounds, Instr.sliceBound, asIntOf, hk, h1]
theorem run_cutZ_end {P : Program} {t e : TypeId} {z : Nat} (ht : P.underlying t = some (.slice e)) (hs : (P.info? e).map (·.size) = some z) (A : Option Addr) (n c k m : Nat) (hk : k ≤ n) (hm : n - k = m) (W : World) :
    (Instr.slice t (.slice A n c) (some (.int .i64 (k : Int))) none none).run P W = .ok (.slice (cutZ z A c k) m (c - k)) W := by
  rw [run_cutZ ht hs A n c k hk W, hm]
theorem own_farS {w w' : World} {base n size g : Nat} {e : TypeId} {v : Value} {xs : List Value} (h : w.ownsRow base e size v n xs) (hg : w.grownBy w' (some g)) (hlt : g < base) : w'.ownsRow base e size v n xs :=
  h.kept hg (by
    cases hv : v.ownBlock with
    | none => exact .inl rfl
    | some k => exact .inr (fun e => by have := (h.lt k hv).1; injection e with e; omega))
theorem ftC_take (L : List Ft) (j : Nat) : (ftC L).take (j * 6) = ftC (L.take j) := by
  have h := congrArg ftC (List.take_append_drop j L)
  rw [ftC_append] at h
  rw [← h]
  by_cases hj : j ≤ L.length
  · rw [List.take_left' (by rw [ftC_length, List.length_take]; omega)]
  · rw [List.drop_of_length_le (by omega), show ftC ([] : List Ft) = [] from rfl, List.append_nil, List.take_of_length_le (by rw [ftC_length, List.length_take]; omega)]
theorem ftC_drop (L : List Ft) (j : Nat) : (ftC L).drop (j * 6) = ftC (L.drop j) := by
  have h := congrArg ftC (List.take_append_drop j L)
  rw [ftC_append] at h
  rw [← h]
  by_cases hj : j ≤ L.length
  · rw [List.drop_left' (by rw [ftC_length, List.length_take]; omega)]
  · rw [List.drop_of_length_le (l := L) (by omega), show ftC ([] : List Ft) = [] from rfl, List.append_nil, List.drop_of_length_le (by rw [ftC_length, List.length_take]; omega)]
/-- The box behind a put. -/
theorem ref_fin {w w0 wz : World} {base r c c' m : Nat} {A A' : Option Addr} {L L' : List Ft} (h0 : RefAt w0 base r A c L false) (hlt : r < w.heap.size) (hbase : base ≤ w.heap.size) (hb : Below w.heap.size w w0) (hz : Below w0.heap.size w0 wz) (hl : L'.length = m) (ho : wz.ownsRow w0.heap.size 27 6 (.slice A' m c') m (ftC L')) :
    RefAt (wz.setCell ⟨r, 0, none⟩ (.slice A' m c')) base r A' c' L' false ∧ KeepBut (fun k => k = r) w (wz.setCell ⟨r, 0, none⟩ (.slice A' m c')) ∧ (∀ k, refS r A' L'.length c' k → refS r A L.length c k ∨ w.heap.size ≤ k) := by
  subst hl
  have h1 : Below w.heap.size w wz := hb.trans (hz.mono hb.size)
  refine ⟨⟨?_, ?_, h0.rb⟩, KeepBut.setCell (S := fun k => k = r) (p := ⟨r, 0, none⟩) (KeepBut.of_below h1) rfl _, fun k hk => ?_⟩
  · have hk := (h0.box.below hz h0.box.lt).store 0 (.slice A' L'.length c')
    exact hk
  · exact (own_farS ho (only_store (World.grownBy.refl wz (some r)) (p := ⟨r, 0, none⟩) rfl _) (Nat.lt_of_lt_of_le hlt hb.size)).mono (Nat.le_trans hbase hb.size)
  · rcases hk with rfl | hk
    · exact .inl (.inl rfl)
    · have := (own_ty ho hk).1
      exact .inr (Nat.le_trans hb.size this)

set_option maxRecDepth 100000 in
theorem rput_frozen (w : World) (base r c : Nat) (A : Option Addr) (L : List Ft) (h : RefAt w base r A c L true) (f : Ft) (H : Int) :
    Calls Tryd.prog 10 #[.pointer (some ⟨r, 0, none⟩), f.val, .int .i64 H] w fun e w' => e = .returned (.int .i64 12) ∧ Below w.heap.size w w' := by
  obtain ⟨k, va, se, li, ki, v⟩ := f
  have hb := (Below.refl w.heap.size w).alloc (Nat.le_refl _) (.cells #[.string k, .int .u32 (va : Int), .int .u64 (se : Int), .int .u64 (li : Int), .int .u8 (ki : Int), .string v] 27)
  have cb := (h.box.below hb h.box.lt).cell
  clear h
  simp only [Ft.val]
  go_enter Tryd.func10, Tryd.ntmps10
  go_wp2
  go_ret
  exact ⟨rfl, hb⟩

set_option maxRecDepth 100000 in
set_option maxHeartbeats 3200000 in
theorem rput_any (w : World) (base r c : Nat) (A : Option Addr) (L : List Ft) (h : RefAt w base r A c L false) (hbase : base ≤ w.heap.size) (hL : L.length ≤ 1000) (f : Ft) (H : Int) :
    Calls Tryd.prog 10 #[.pointer (some ⟨r, 0, none⟩), f.val, .int .i64 H] w fun e w' => ∃ A' c', e = .returned (.int .i64 (refPutL L f H).1) ∧ RefAt w' base r A' c' (refPutL L f H).2 false ∧ KeepBut (fun k => k = r) w w' ∧ (∀ k, refS r A' (refPutL L f H).2.length c' k → refS r A L.length c k ∨ w.heap.size ≤ k) := by
  obtain ⟨k, va, se, li, ki, v⟩ := f
  have hb := (Below.refl w.heap.size w).alloc (Nat.le_refl _) (.cells #[.string k, .int .u32 (va : Int), .int .u64 (se : Int), .int .u64 (li : Int), .int .u8 (ki : Int), .string v] 27)
  have kF := Blk.new w 27 #[.string k, .int .u32 (va : Int), .int .u64 (se : Int), .int .u64 (li : Int), .int .u8 (ki : Int), .string v]
  have h0 := h.below hb
  have hlt := h.box.lt
  obtain ⟨w0, hw0⟩ : ∃ w0, w.alloc (.cells #[.string k, .int .u32 (va : Int), .int .u64 (se : Int), .int .u64 (li : Int), .int .u8 (ki : Int), .string v] 27) = w0 := ⟨_, rfl⟩
  have hs0 : w0.heap.size = w.heap.size + 1 := by rw [← hw0]; simp
  rw [hw0] at hb kF h0
  simp only [Ft.val]
  replace hw0 := Lib.hid hw0
  obtain ⟨n, hn⟩ : ∃ n, L.length = n := ⟨_, rfl⟩
  have kR := h0.box
  have hF := h0.facts
  rw [hn] at kR hL
  have cR := kR.cell
  have cF := kF.cell
  have pm := refMay_any w0 k v va se li ki
  have same : ∀ w', Below w0.heap.size w0 w' → ∃ A' c', RefAt w' base r A' c' L false ∧ KeepBut (fun k => k = r) w w' ∧ (∀ k, refS r A' L.length c' k → refS r A L.length c k ∨ w.heap.size ≤ k) := fun w' hb' =>
    ⟨A, c, h0.below hb', KeepBut.of_below (hb.trans (hb'.mono hb.size)), fun k hk => .inl hk⟩
  replace same := Lib.hid same
  by_cases h1 : mayB k se ki = false
  · have hR : refPutL L ⟨k, va, se, li, ki, v⟩ H = (1, L) := by unfold refPutL; rw [if_pos h1]
    rw [hR]
    rw [h1] at pm
    replace hR := Lib.hid hR
    replace h1 := Lib.hid h1
    clear h
    go_enter Tryd.func10, Tryd.ntmps10
    go_wp2_with (first | rw [hw0.out] | fail)
    refine pm.mono ?_
    rintro _ w2 ⟨rfl, b2⟩
    go_wp2
    go_ret
    obtain ⟨A', c', q⟩ := same.out _ b2
    exact ⟨A', c', rfl, q⟩
  have h1' : mayB k se ki = true := by simpa using h1
  rw [h1'] at pm
  replace h1 := Lib.hid h1
  replace h1' := Lib.hid h1'
  by_cases h2 : H < 1 ∨ 8 < H
  · have hR : refPutL L ⟨k, va, se, li, ki, v⟩ H = (1, L) := by unfold refPutL; rw [if_neg h1.out, if_pos h2]
    rw [hR]
    replace hR := Lib.hid hR
    clear h
    go_enter Tryd.func10, Tryd.ntmps10
    go_wp2_with (first | rw [hw0.out] | fail)
    refine pm.mono ?_
    rintro _ w2 ⟨rfl, b2⟩
    obtain ⟨A', c', q⟩ := same.out _ b2
    by_cases h3 : H < 1
    · have d3 : decide (H < 1) = true := decide_eq_true h3
      go_wp2
      go_ret
      exact ⟨A', c', rfl, q⟩
    · have d3 : decide (H < 1) = false := decide_eq_false h3
      have d4 : decide (8 < H) = true := decide_eq_true (by omega)
      go_wp2
      go_ret
      exact ⟨A', c', rfl, q⟩
  have d3 : decide (H < 1) = false := decide_eq_false (by omega)
  have d4 : decide (8 < H) = false := decide_eq_false (by omega)
  obtain ⟨R, hR⟩ : ∃ R, refPutL L ⟨k, va, se, li, ki, v⟩ H = R := ⟨_, rfl⟩
  rw [hR]
  have hRe : R = if thereT L ⟨k, va, se, li, ki, v⟩ = true then (8, L) else (0, L.take (atT L ⟨k, va, se, li, ki, v⟩) ++ ⟨k, va, se, li, ki, v⟩ :: L.drop (atT L ⟨k, va, se, li, ki, v⟩)) := by
    rw [← hR]
    unfold refPutL
    rw [if_neg h1.out, if_neg h2]
  clear hR
  replace hRe := Lib.hid hRe
  clear h2
  go_enter Tryd.func10, Tryd.ntmps10
  go_wp2_with (first | rw [hw0.out] | fail)
  refine pm.mono ?_
  clear cR cF pm
  rintro _ w1 ⟨rfl, b1⟩
  go_wp2
  go_loopw [7] (fun i wr => ∃ j : Nat, j ≤ n ∧ i = .int .i64 (j : Int) ∧ Hid (∀ q (hq : q < L.length), q < j → cmpT L[q] ⟨k, va, se, li, ki, v⟩ < 0) ∧ Below w0.heap.size w0 wr) (fun i _ => n - (intOf i).toNat)
  case atStart => exact ⟨0, by omega, rfl, Lib.hid (fun q hq h => absurd h (by omega)), b1⟩
  case round =>
    clear b1
    obtain ⟨j, hj, rfl, hall, hB⟩ := hrel
    have kR2 := kR.below hB kR.lt
    have kF2 := kF.below hB kF.lt
    have cR := kR2.cell
    have cF := kF2.cell
    by_cases hjn : j < n
    · have hjL : j < L.length := by omega
      have hF2 := hF.below hB
      obtain ⟨b, off, rfl, hbb, hc⟩ := Fs.at_ hF2 hjL
      obtain ⟨x, hx⟩ : ∃ x, L[j] = x := ⟨_, rfl⟩
      have hcx := hc j hjL
      rw [hx] at hcx
      obtain ⟨xk, xva, xse, xli, xki, xv⟩ := x
      simp only at hcx
      have mkS : ∀ W, Below wr.heap.size wr W → (fun W => (∀ i, W.cell? ⟨r, i, none⟩ = (#[.slice (some ⟨b, off, none⟩) n c, .bool false] : Array Value)[i]?) ∧ (∀ i, W.cell? ⟨w.heap.size, i, none⟩ = (#[.string k, .int .u32 (va : Int), .int .u64 (se : Int), .int .u64 (li : Int), .int .u8 (ki : Int), .string v] : Array Value)[i]?) ∧ (W.cell? ⟨b, off + j * 6, none⟩ = some (.string xk) ∧ W.cell? ⟨b, off + j * 6 + 1, none⟩ = some (.int .u32 (xva : Int)) ∧ W.cell? ⟨b, off + j * 6 + 2, none⟩ = some (.int .u64 (xse : Int)) ∧ W.cell? ⟨b, off + j * 6 + 3, none⟩ = some (.int .u64 (xli : Int)) ∧ W.cell? ⟨b, off + j * 6 + 4, none⟩ = some (.int .u8 (xki : Int)) ∧ W.cell? ⟨b, off + j * 6 + 5, none⟩ = some (.string xv)) ∧ Below wr.heap.size wr W) W := fun W hW => by
        refine ⟨(kR2.below hW kR2.lt).cell, (kF2.below hW kF2.lt).cell, ?_, hW⟩
        obtain ⟨b', off', he, _, hc'⟩ := Fs.at_ (hF2.below hW) hjL
        cases he
        have hcx' := hc' j hjL
        rw [hx] at hcx'
        exact hcx'
      have s0 := mkS wr (Below.refl _ _)
      have s1 := mkS wr.drew (Below.refl _ wr).drew
      have pc := fun W => refCmp_any W xk k xv v (xva : Int) (va : Int) (xse : Int) (se : Int) (xli : Int) (li : Int) (xki : Int) (ki : Int)
      obtain ⟨z, hz⟩ : ∃ z, cmpF xk k (xva : Int) (va : Int) (xse : Int) (se : Int) (xki : Int) (ki : Int) = z := ⟨_, rfl⟩
      have hzT : cmpT L[j] ⟨k, va, se, li, ki, v⟩ = z := by rw [hx]; exact hz
      simp only [hz] at pc
      have hdk : decide (j < n) = true := by simpa using hjn
      replace hc := Lib.hid hc
      replace hx := Lib.hid hx
      replace hz := Lib.hid hz
      replace hzT := Lib.hid hzT
      replace pc := Lib.hid pc
      replace mkS := Lib.hid mkS
      replace hn := Lib.hid hn
      clear hcx h kR2 kF2 hbb
      go_wp2
      go_region_held3 (fun W => (∀ i, W.cell? ⟨r, i, none⟩ = (#[.slice (some ⟨b, off, none⟩) n c, .bool false] : Array Value)[i]?) ∧ (∀ i, W.cell? ⟨w.heap.size, i, none⟩ = (#[.string k, .int .u32 (va : Int), .int .u64 (se : Int), .int .u64 (li : Int), .int .u8 (ki : Int), .string v] : Array Value)[i]?) ∧ (W.cell? ⟨b, off + j * 6, none⟩ = some (.string xk) ∧ W.cell? ⟨b, off + j * 6 + 1, none⟩ = some (.int .u32 (xva : Int)) ∧ W.cell? ⟨b, off + j * 6 + 2, none⟩ = some (.int .u64 (xse : Int)) ∧ W.cell? ⟨b, off + j * 6 + 3, none⟩ = some (.int .u64 (xli : Int)) ∧ W.cell? ⟨b, off + j * 6 + 4, none⟩ = some (.int .u8 (xki : Int)) ∧ W.cell? ⟨b, off + j * 6 + 5, none⟩ = some (.string xv)) ∧ Below wr.heap.size wr W)
        (first | with_reducible exact v4 | with_reducible exact s1 | with_reducible exact s0)
        (first
        | (go_at_call 26; (with_reducible refine (pc.out _).mono ?_); rintro _ q4 ⟨rfl, b4⟩; have v4 := mkS.out _ (Below.trans (And.right (And.right (And.right (by with_reducible assumption)))) (b4.mono (Below.size (And.right (And.right (And.right (by with_reducible assumption))))))))
        | fail)
      by_cases hzn : z < 0
      · have dz : decide (z < 0) = true := decide_eq_true hzn
        have bq := hB.trans ((v4.2.2.2).mono hB.size)
        clear v4 s0 s1 pc
        go_wp2
        go_roundw
        case rel =>
          refine ⟨j + 1, by omega, by go_num, Lib.hid (fun q hq hqj => ?_), bq⟩
          by_cases hqe : q = j
          · subst hqe
            rw [hzT.out]
            exact hzn
          · exact hall.out q hq (by omega)
        case measure => simp [intOf] <;> omega
      · have dz : decide (z < 0) = false := decide_eq_false hzn
        have hat : atT L ⟨k, va, se, li, ki, v⟩ = j := atT_uniq L _ j (by omega) hall.out (fun hh => by rw [hzT.out]; exact hzn)
        have hth0 : thereT L ⟨k, va, se, li, ki, v⟩ = (z == 0) := by
          unfold thereT
          rw [hat, List.getElem?_eq_getElem hjL]
          show (cmpT L[j] _ == 0) = _
          rw [hzT.out]
        replace hat := Lib.hid hat
        replace hth0 := Lib.hid hth0
        have s4 := mkS.out q4.drew v4.2.2.2.drew
        replace v4 := Lib.hid v4
        clear s0 s1
        go_wp2
        go_region_held3 (fun W => (∀ i, W.cell? ⟨r, i, none⟩ = (#[.slice (some ⟨b, off, none⟩) n c, .bool false] : Array Value)[i]?) ∧ (∀ i, W.cell? ⟨w.heap.size, i, none⟩ = (#[.string k, .int .u32 (va : Int), .int .u64 (se : Int), .int .u64 (li : Int), .int .u8 (ki : Int), .string v] : Array Value)[i]?) ∧ (W.cell? ⟨b, off + j * 6, none⟩ = some (.string xk) ∧ W.cell? ⟨b, off + j * 6 + 1, none⟩ = some (.int .u32 (xva : Int)) ∧ W.cell? ⟨b, off + j * 6 + 2, none⟩ = some (.int .u64 (xse : Int)) ∧ W.cell? ⟨b, off + j * 6 + 3, none⟩ = some (.int .u64 (xli : Int)) ∧ W.cell? ⟨b, off + j * 6 + 4, none⟩ = some (.int .u8 (xki : Int)) ∧ W.cell? ⟨b, off + j * 6 + 5, none⟩ = some (.string xv)) ∧ Below wr.heap.size wr W)
          (first | with_reducible exact v5 | with_reducible exact s4 | with_reducible exact v4.out)
          (first
          | (go_at_call 26; (with_reducible refine (pc.out _).mono ?_); rintro _ q5 ⟨rfl, b5⟩; have v5 := mkS.out _ (Below.trans (And.right (And.right (And.right (by with_reducible assumption)))) (b5.mono (Below.size (And.right (And.right (And.right (by with_reducible assumption))))))))
          | fail)
        have bT := hB.trans ((v5.2.2.2).mono hB.size)
        clear s4 v5 pc mkS
        by_cases hz0 : z = 0
        · have ez : (z == 0) = true := by simpa using hz0
          have hRe2 : R = (8, L) := by rw [hRe.out, hth0.out, ez]; rfl
          obtain ⟨A', c', q⟩ := same.out q5 bT
          replace hRe2 := Lib.hid hRe2
          clear hz0
          go_wp2
          go_ret
          rw [hRe2.out]
          exact ⟨A', c', rfl, q⟩
        · have ez : (z == 0) = false := by simpa using hz0
          have hth : thereT L ⟨k, va, se, li, ki, v⟩ = false := by rw [hth0.out, ez]
          replace hat := hat.out
          clear hz0 hth0
          have hcap := own_cap h0.row
          rw [hn.out] at hcap
          have hcap2 := hcap.2
          unfold maxLen at hcap2
          have k1 := run_cutZ_to (P := Tryd.prog) (e := 27) (z := 6) Tryd.underlying36 (by kernel_rfl) (some ⟨b, off, none⟩) n c j (by omega)
          have k2 := run_cutZ_end (P := Tryd.prog) (e := 27) (z := 6) Tryd.underlying36 (by kernel_rfl) (some ⟨b, off, none⟩) n c j (n - j) (by omega) (by omega)
          have rd1 : ∀ X, Below w0.heap.size w0 X → Rd X 6 (cutZ 6 (some ⟨b, off, none⟩) c 0) j (ftC (L.take j)) := fun X hX => by
            have h1 : Rd X 6 (some ⟨b, off, none⟩) n (ftC L) := by have := hF.below hX; unfold Fs at this; rwa [hn.out] at this
            have h2 := Rd.cut (k := 0) (m := j) (A' := cutZ 6 (some ⟨b, off, none⟩) c 0) h1 (by omega) (by omega) (fun h0 => by unfold cutZ; rw [if_neg (by omega)])
            have e : ((ftC L).drop (0 * 6)).take ((j - 0) * 6) = ftC (L.take j) := by rw [Nat.zero_mul, List.drop_zero, Nat.sub_zero, ftC_take]
            rw [e] at h2
            exact h2
          have rd2 : ∀ X, Below w0.heap.size w0 X → Rd X 6 (cutZ 6 (some ⟨b, off, none⟩) c j) (n - j) (ftC (L.drop j)) := fun X hX => by
            have h1 : Rd X 6 (some ⟨b, off, none⟩) n (ftC L) := by have := hF.below hX; unfold Fs at this; rwa [hn.out] at this
            have h2 := Rd.cut (k := j) (m := n) (A' := cutZ 6 (some ⟨b, off, none⟩) c j) h1 (by omega) (by omega) (fun h0 => by unfold cutZ; rw [if_neg (by omega)])
            have e : ((ftC L).drop (j * 6)).take ((n - j) * 6) = ftC (L.drop j) := by
              rw [ftC_drop]
              exact List.take_of_length_le (by rw [ftC_length, List.length_drop, hn.out]; omega)
            rw [e] at h2
            have e2 : n - j = n - j := by omega
            rw [e2] at h2
            exact h2
          replace rd1 := Lib.hid rd1
          replace rd2 := Lib.hid rd2
          have hRe2 : R = (0, L.take j ++ ⟨k, va, se, li, ki, v⟩ :: L.drop j) := by
            rw [hRe.out, hth, hat]
            rfl
          have hll : (L.take j ++ ⟨k, va, se, li, ki, v⟩ :: L.drop j).length = j + 1 + (n - j) := by
            rw [List.length_append, List.length_cons, List.length_take, List.length_drop, hn.out]
            omega
          have fin := fun wz A4 c4 (hz : Below w0.heap.size w0 wz) ho => ref_fin (w := w) (A' := A4) (c' := c4) h0 hlt hbase hb (wz := wz) hz hll ho
          replace fin := Lib.hid fin
          replace hll := Lib.hid hll
          have cR := (kR.below bT kR.lt).cell
          have cF := (kF.below bT kF.lt).cell
          replace hRe2 := Lib.hid hRe2
          clear hRe hat hth h0 hF
          go_wp2_with (first
            | (at_builtin; refine wpList_app q5 rfl (.tmp 64) (.tmp 70) rfl Tryd.underlying36 ftInfo rfl (by decide) (World.ownsRow_nil q5 w0.heap.size 27 6) rfl _ j c (rd1.out _ bT) rfl (ftC_one (L.take j)) (by unfold maxLen; omega) (by omega) bT.size ?_; intro v2 w2 hown2 hgrow2 _; rw [Nat.zero_add, List.nil_append] at hown2; have b2 : Below w0.heap.size w0 w2 := below_app bT (World.ownsRow_nil q5 w0.heap.size 27 6) (Nat.le_refl _) bT.size hgrow2; have cF2 := (kF.below b2 kF.lt).cell)
            | (at_builtin; refine wpList_app _ rfl (.tmp 72) (.tmp 74) rfl Tryd.underlying36 ftInfo rfl (by decide) (hown2.alloc (.cells #[.string k, .int .u32 (va : Int), .int .u64 (se : Int), .int .u64 (li : Int), .int .u8 (ki : Int), .string v] 27)) rfl _ 1 1 (Rd.ft w2 27 ⟨k, va, se, li, ki, v⟩) rfl (ftC_one [⟨k, va, se, li, ki, v⟩]) (by unfold maxLen; omega) (by omega) (by have := b2.size; simp; omega) ?_; intro v3 w3 hown3 hgrow3 _; have b3 : Below w0.heap.size w0 w3 := below_app (b2.alloc b2.size _) (hown2.alloc _) (Nat.le_refl _) (by have := b2.size; simp; omega) hgrow3; have cR3 := (kR.below b3 kR.lt).cell)
            | (at_builtin; refine wpList_app w3 rfl (.tmp 77) (.tmp 83) rfl Tryd.underlying36 ftInfo rfl (by decide) hown3 rfl _ (n - j) (c - j) (rd2.out _ b3) rfl (ftC_one (L.drop j)) (by unfold maxLen; omega) (by omega) b3.size ?_; intro v4 w4 hown4 hgrow4 _; obtain ⟨A4, c4, rfl⟩ := own_slice hown4; have b4' : Below w0.heap.size w0 w4 := below_app b3 hown3 (Nat.le_refl _) b3.size hgrow4; have fR4 := (kR.below b4' kR.lt).frozen; have cR4 := (kR.below b4' kR.lt).cell)
            | fail)
          go_ret
          have hfin := fin.out w4 A4 c4 b4' (by rw [ftC_append, show ftC (⟨k, va, se, li, ki, v⟩ :: L.drop j) = ftC [⟨k, va, se, li, ki, v⟩] ++ ftC (L.drop j) from rfl, ← List.append_assoc]; exact hown4)
          rw [hRe2.out]
          exact ⟨A4, c4, rfl, hfin⟩
    · obtain rfl : j = n := by omega
      have hdk : decide (j < j) = false := by simp
      have hat : atT L ⟨k, va, se, li, ki, v⟩ = j := atT_uniq L _ j (by omega) hall.out (fun hh => absurd hh (by omega))
      have hth : thereT L ⟨k, va, se, li, ki, v⟩ = false := by
        unfold thereT
        rw [hat, List.getElem?_eq_none (by omega)]
      replace hat := Lib.hid hat
      replace hth := Lib.hid hth
      replace hn := Lib.hid hn
      clear h
      go_wp2
      go_quiet (fail)
      go_wp2
      go_quiet (fail)
      generalize hwt : (wr.drewN _).drewN _ = wt
      have bT : Below w0.heap.size w0 wt := by rw [← hwt]; exact ⟨hB.os, hB.tape, hB.output, hB.size, hB.block⟩
      clear hwt cR cF kR2 kF2
      replace hat := hat.out
      replace hth := hth.out
      have hcap := own_cap h0.row
      rw [hn.out] at hcap
      have hcap2 := hcap.2
      unfold maxLen at hcap2
      have k1 := run_cutZ_to (P := Tryd.prog) (e := 27) (z := 6) Tryd.underlying36 (by kernel_rfl) (A) j c j (by omega)
      have k2 := run_cutZ_end (P := Tryd.prog) (e := 27) (z := 6) Tryd.underlying36 (by kernel_rfl) (A) j c j (0) (by omega) (by omega)
      have rd1 : ∀ X, Below w0.heap.size w0 X → Rd X 6 (cutZ 6 (A) c 0) j (ftC (L.take j)) := fun X hX => by
        have h1 : Rd X 6 (A) j (ftC L) := by have := hF.below hX; unfold Fs at this; rwa [hn.out] at this
        have h2 := Rd.cut (k := 0) (m := j) (A' := cutZ 6 (A) c 0) h1 (by omega) (by omega) (fun h0 => by unfold cutZ; rw [if_neg (by omega)])
        have e : ((ftC L).drop (0 * 6)).take ((j - 0) * 6) = ftC (L.take j) := by rw [Nat.zero_mul, List.drop_zero, Nat.sub_zero, ftC_take]
        rw [e] at h2
        exact h2
      have rd2 : ∀ X, Below w0.heap.size w0 X → Rd X 6 (cutZ 6 (A) c j) (0) (ftC (L.drop j)) := fun X hX => by
        have h1 : Rd X 6 (A) j (ftC L) := by have := hF.below hX; unfold Fs at this; rwa [hn.out] at this
        have h2 := Rd.cut (k := j) (m := j) (A' := cutZ 6 (A) c j) h1 (by omega) (by omega) (fun h0 => by unfold cutZ; rw [if_neg (by omega)])
        have e : ((ftC L).drop (j * 6)).take ((j - j) * 6) = ftC (L.drop j) := by
          rw [ftC_drop]
          exact List.take_of_length_le (by rw [ftC_length, List.length_drop, hn.out]; omega)
        rw [e] at h2
        have e2 : j - j = 0 := by omega
        rw [e2] at h2
        exact h2
      replace rd1 := Lib.hid rd1
      replace rd2 := Lib.hid rd2
      have hRe2 : R = (0, L.take j ++ ⟨k, va, se, li, ki, v⟩ :: L.drop j) := by
        rw [hRe.out, hth, hat]
        rfl
      have hll : (L.take j ++ ⟨k, va, se, li, ki, v⟩ :: L.drop j).length = j + 1 + (0) := by
        rw [List.length_append, List.length_cons, List.length_take, List.length_drop, hn.out]
        omega
      have fin := fun wz A4 c4 (hz : Below w0.heap.size w0 wz) ho => ref_fin (w := w) (A' := A4) (c' := c4) h0 hlt hbase hb (wz := wz) hz hll ho
      replace fin := Lib.hid fin
      replace hll := Lib.hid hll
      have cR := (kR.below bT kR.lt).cell
      have cF := (kF.below bT kF.lt).cell
      replace hRe2 := Lib.hid hRe2
      clear hRe hat hth h0 hF
      go_wp2_with (first
        | (at_builtin; refine wpList_app wt rfl (.tmp 64) (.tmp 70) rfl Tryd.underlying36 ftInfo rfl (by decide) (World.ownsRow_nil wt w0.heap.size 27 6) rfl _ j c (rd1.out _ bT) rfl (ftC_one (L.take j)) (by unfold maxLen; omega) (by omega) bT.size ?_; intro v2 w2 hown2 hgrow2 _; rw [Nat.zero_add, List.nil_append] at hown2; have b2 : Below w0.heap.size w0 w2 := below_app bT (World.ownsRow_nil wt w0.heap.size 27 6) (Nat.le_refl _) bT.size hgrow2; have cF2 := (kF.below b2 kF.lt).cell)
        | (at_builtin; refine wpList_app _ rfl (.tmp 72) (.tmp 74) rfl Tryd.underlying36 ftInfo rfl (by decide) (hown2.alloc (.cells #[.string k, .int .u32 (va : Int), .int .u64 (se : Int), .int .u64 (li : Int), .int .u8 (ki : Int), .string v] 27)) rfl _ 1 1 (Rd.ft w2 27 ⟨k, va, se, li, ki, v⟩) rfl (ftC_one [⟨k, va, se, li, ki, v⟩]) (by unfold maxLen; omega) (by omega) (by have := b2.size; simp; omega) ?_; intro v3 w3 hown3 hgrow3 _; have b3 : Below w0.heap.size w0 w3 := below_app (b2.alloc b2.size _) (hown2.alloc _) (Nat.le_refl _) (by have := b2.size; simp; omega) hgrow3; have cR3 := (kR.below b3 kR.lt).cell)
        | (at_builtin; refine wpList_app w3 rfl (.tmp 77) (.tmp 83) rfl Tryd.underlying36 ftInfo rfl (by decide) hown3 rfl _ (0) (c - j) (rd2.out _ b3) rfl (ftC_one (L.drop j)) (by unfold maxLen; omega) (by omega) b3.size ?_; intro v4 w4 hown4 hgrow4 _; obtain ⟨A4, c4, rfl⟩ := own_slice hown4; have b4' : Below w0.heap.size w0 w4 := below_app b3 hown3 (Nat.le_refl _) b3.size hgrow4; have fR4 := (kR.below b4' kR.lt).frozen; have cR4 := (kR.below b4' kR.lt).cell)
        | fail)
      go_ret
      have hfin := fin.out w4 A4 c4 b4' (by rw [ftC_append, show ftC (⟨k, va, se, li, ki, v⟩ :: L.drop j) = ftC [⟨k, va, se, li, ki, v⟩] ++ ftC (L.drop j) from rfl, ← List.append_assoc]; exact hown4)
      rw [hRe2.out]
      exact ⟨A4, c4, rfl, hfin⟩
end Go.Proofs.YtdifdbkbpeanhaaDoor
