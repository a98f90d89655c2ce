/- The walk of the document's Of. -/
import Derived.Test.YtnlmchbigpjamaaJnMany
import Derived.Test.YtnlmchbigpjamaaJnRefP
import Derived.Test.YtnlmchbigpjamaaKeyCmp
import Derived.Test.YtnlmchbigpjamaaJnOf
import Derived.Deep.RegionHeld3
import Derived.BigQuiet
import Derived.Deep.QuietTactic
set_option linter.unusedSimpArgs false
set_option linter.unusedVariables false
namespace Go.Proofs.Ytnlmchbigpjamaa
open Go Go.RowKit Go.Shelf Herb Herb.Jn
theorem intInfo : (Try.prog.info? 3).map (fun i => (i.zero, i.size, i.bytes)) = some (some (.int .i64 0), 1, 8) := by kernel_rfl
def psC (ps : List Nat) : List Value := ps.map fun (p : Nat) => Value.int .i64 (p : Int)
def bz : Option Nat → Int
  | none => -1
  | some j => (j : Int)
theorem psC_get {ps : List Nat} {i p : Nat} (h : ps[i]? = some p) : (psC ps).toArray[i]? = some (Value.int .i64 (p : Int)) := by
  rw [List.getElem?_toArray]
  simp [psC, h]
theorem befB_lt (f g : Ft) : befB f.k g.k (f.va : Int) (g.va : Int) (f.se : Int) (g.se : Int) (f.ki : Int) (g.ki : Int) = true ↔ cmpFt f g < 0 := by
  have h := cmpF_bef f.k g.k (f.va : Int) (g.va : Int) (f.se : Int) (g.se : Int) (f.ki : Int) (g.ki : Int)
  unfold cmpFt
  rw [h]
  split
  · simp [*]
  · split <;> simp [*]
/-- The places' sum, read off the world. -/
def atSum (w : World) (g : Nat) : Nat := match w.heap[g]? with
  | some (.cells cs _ _) => (cs.toList.map fun v => match v with | .int _ z => z.toNat | _ => 0).sum
  | _ => 0
theorem atSum_eq {w : World} {g : Nat} {t : TypeId} {ps : List Nat} (h : Blk w g t (psC ps).toArray) : atSum w g = ps.sum := by
  have h' : w.heap[g]? = some (.cells (psC ps).toArray t (0, 0)) := h
  unfold atSum
  rw [h']
  simp only [psC, List.map_map]
  congr 1
  conv => rhs; rw [← List.map_id ps]
  apply List.map_congr_left
  intro p _
  simp
theorem sum_set : ∀ {ps : List Nat} {i p : Nat}, ps[i]? = some p → (ps.set i (p + 1)).sum = ps.sum + 1
  | q :: ps, 0, p, h => by
    simp only [List.getElem?_cons_zero, Option.some.injEq] at h
    subst h
    simp
    omega
  | q :: ps, i + 1, p, h => by
    simp only [List.getElem?_cons_succ] at h
    simp only [List.set_cons_succ, List.sum_cons, sum_set h]
    omega
set_option maxRecDepth 100000 in
set_option maxHeartbeats 6400000 in
theorem refOf_any (w : World) (A : Option Addr) (n c : Nat) (ls : List Sl) (hn : ls.length = n) (hn2 : n ≤ 1000) (hR : Rows_ w A ls) (htot : total (ls.map Sl.fs) ≤ 1000) :
    Calls Try.prog 12 #[.slice A n c] w fun e w' => ∃ (out : List Ft) (A' : Option Addr) (m c' : Nat), Merge (ls.map Sl.fs) out ∧ (dd out).length = m ∧ e = .returned (.slice A' m c') ∧ w'.ownsRow w.heap.size 44 6 (.slice A' m c') m (ftC (dd out)) ∧ Below w.heap.size w w' := by
  have hmk := fun W => make_one (P := Try.prog) Try.underlying63 intInfo rfl n (n : Int) rfl (by omega) (by omega) W
  obtain ⟨Bf, hBf⟩ : ∃ Bf, w.heap.size = Bf := ⟨_, rfl⟩
  obtain ⟨R, hRR⟩ : ∃ R, ls.map Sl.fs = R := ⟨_, rfl⟩
  have hRl : R.length = n := by rw [← hRR, List.length_map, hn]
  have k1 : Blk (w.alloc (.cells (Array.replicate n (Value.int .i64 0)) 3)) Bf 3 (psC (List.replicate n 0)).toArray := by
    rw [← hBf]
    have e : (psC (List.replicate n 0)).toArray = Array.replicate n (Value.int .i64 0) := by simp [psC]
    rw [e]
    exact Blk.new w _ _
  have b1 : Below Bf w (w.alloc (.cells (Array.replicate n (Value.int .i64 0)) 3)) := by rw [← hBf]; exact (Below.refl _ _).alloc (Nat.le_refl _) _
  have hs1 : (w.alloc (.cells (Array.replicate n (Value.int .i64 0)) 3)).heap.size = Bf + 1 := by rw [← hBf]; simp
  obtain ⟨w1, hw1⟩ : ∃ w1, w.alloc (.cells (Array.replicate n (Value.int .i64 0)) 3) = w1 := ⟨_, rfl⟩
  rw [hw1] at k1 b1 hs1
  have hRw : ∀ W, Below Bf w W → Rows_ W A ls := fun W hW => hR.below (by rw [hBf]; exact hW)
  have hten : ∀ x ∈ ls, x.fs.length ≤ 1000 := fun x hx => by
    have := le_total (List.mem_map.2 ⟨x, hx, rfl⟩ : x.fs ∈ ls.map Sl.fs)
    omega
  rw [hRR] at htot ⊢
  rw [hBf]
  replace hn := Lib.hid hn
  replace hRR := Lib.hid hRR
  replace hRl := Lib.hid hRl
  replace hw1 := Lib.hid hw1
  replace hBf' := Lib.hid hBf
  replace hRw := Lib.hid hRw
  replace hten := Lib.hid hten
  replace htot := Lib.hid htot
  clear hBf hR
  go_enter Try.func12, Try.ntmps12
  go_wp2_with (first | rw [hBf'.out, hw1.out] | fail)
  go_loopw [4] (fun v wr => ∃ (ps : List Nat) (raw : List Ft) (m : Nat), Hid (ps.length = n) ∧ Hid (∀ rest, Merge (rem R ps) rest → Merge R (raw ++ rest)) ∧ Blk wr Bf 3 (psC ps).toArray ∧ Hid ((dd raw).length = m) ∧ Hid (ps.sum = raw.length ∧ raw.length + total (rem R ps) = total R) ∧ m ≤ 1000 ∧ wr.ownsRow (Bf + 1) 44 6 v m (ftC (dd raw)) ∧ Below Bf w wr ∧ Bf + 1 ≤ wr.heap.size) (fun _ wr => 1001 - atSum wr Bf)
  case atStart => exact ⟨List.replicate n 0, [], 0, Lib.hid (by simp), Lib.hid (fun rest h => by rw [← hRl.out, rem_zero] at h; exact h), k1, Lib.hid rfl, Lib.hid ⟨by simp, by rw [← hRl.out, rem_zero]; simp⟩, by omega, World.ownsRow_nil _ _ _ _, b1, by omega⟩
  case round =>
    clear k1 b1 hs1 hmk
    obtain ⟨ps, raw, m, hpl, hpre, hk, hm, hsum, hm1, hown, hB, hsz⟩ := hrel
    replace hown := Lib.hid hown
    have hk0 := Lib.hid hk
    go_wp2_with fail
    go_loopw [5, 6] (fun v5 v6 w5 => ∃ (i : Nat) (b : Option Nat), i ≤ n ∧ v5 = .int .i64 (bz b) ∧ v6 = .int .i64 (i : Int) ∧ Hid (Best (rem R ps) i b) ∧ Below wr.heap.size wr w5) (fun _ v6 _ => n - (intOf v6).toNat)
    case atStart => exact ⟨0, none, by omega, rfl, rfl, Lib.hid (fun k h => absurd h (by omega)), Below.refl _ _⟩
    case round =>
      obtain ⟨i, b, hi, rfl, rfl, hbest, hB5⟩ := hrel
      have hBw := hB.trans (hB5.mono (by omega))
      by_cases hlt : i < n
      · have hil : i < ls.length := by rw [hn.out]; exact hlt
        have hip : i < ps.length := by rw [hpl.out]; exact hlt
        have hxm := List.getElem_mem hil
        obtain ⟨x, hx⟩ : ∃ x, ls[i] = x := ⟨_, rfl⟩
        obtain ⟨p, hp⟩ : ∃ p, ps[i] = p := ⟨_, rfl⟩
        rw [hx] at hxm
        have hpg : ps[i]? = some p := by rw [List.getElem?_eq_getElem hip, hp]
        have hrow := (hRw.out _ hBw).row
        rw [hn.out] at hrow
        obtain ⟨b0, o0, rfl, hb0, hc⟩ := hrow.at_ hlt
        have h0 := hc i (slV x) (by rw [List.getElem?_map, List.getElem?_eq_getElem hil, hx]; rfl)
        have hxf := (hRw.out _ hBw).fs x hxm
        have hx1 := hten.out x hxm
        have hRx : R[i]? = some x.fs := by rw [← hRR.out, List.getElem?_map, List.getElem?_eq_getElem hil, hx]; rfl
        obtain ⟨xA, xf, xc⟩ := x
        simp only [slV] at h0 hxf hx1 hRx
        obtain ⟨xn, hxn⟩ : ∃ xn, xf.length = xn := ⟨_, rfl⟩
        rw [hxn] at h0 hx1
        have hkw := hk.below hB5 hk.lt
        have cp : wr.cell? ⟨Bf, i, none⟩ = some (.int .i64 (p : Int)) := by rw [hkw.cell]; exact psC_get hpg
        have hii : (0 : Int) ≤ (i : Int) ∧ (i : Int) < (n : Int) := by omega
        have d2 : decide ((i : Int) < (n : Int)) = true := decide_eq_true (by omega)
        replace hx := Lib.hid hx
        replace hp := Lib.hid hp
        replace hpg := Lib.hid hpg
        replace hRx := Lib.hid hRx
        replace hxm := Lib.hid hxm
        replace hbw2 := Lib.hid hb0
        clear hb0
        by_cases hpx : p < xn
        · have hpl2 : p < xf.length := by rw [hxn]; exact hpx
          have d3 : decide ((p : Int) < (xn : Int)) = true := decide_eq_true (by omega)
          have d3n : decide (p < xn) = true := decide_eq_true hpx
          have hrs := rem_some hRx.out hpg.out hpl2
          replace hrs := Lib.hid hrs
          replace hxn := Lib.hid hxn
          cases b with
          | none =>
            have hnb : Hid (Best (rem R ps) (i + 1) (some i)) := Lib.hid (hbest.out.step_first hrs.out)
            simp only [bz]
            clear hc hrow hxf hk
            go_wp2_with fail
            go_quiet (fail)
            go_wp2
            go_roundw
            case rel => exact ⟨i + 1, some i, by omega, rfl, by go_num, hnb, below_drewN hB5 _⟩
            case measure => simp [intOf] <;> omega
          | some j =>
            obtain ⟨bx, ox, rfl, hbx, hcx⟩ := hxf.at_ (i := p) hpl2
            have hf0 := hcx p hpl2
            obtain ⟨f, hf⟩ : ∃ f, xf[p]'hpl2 = f := ⟨_, rfl⟩
            rw [hf] at hf0
            replace hrs := hrs.out
            rw [hf] at hrs
            have hji : j < i := best_ge hbest.out
            obtain ⟨_, g, t, hjr, _⟩ := id hbest.out
            have hjl : j < ls.length := by omega
            have hjp : j < ps.length := by omega
            obtain ⟨y, hy⟩ : ∃ y, ls[j] = y := ⟨_, rfl⟩
            obtain ⟨q, hq⟩ : ∃ q, ps[j] = q := ⟨_, rfl⟩
            have hqg : ps[j]? = some q := by rw [List.getElem?_eq_getElem hjp, hq]
            have hRy : R[j]? = some y.fs := by rw [← hRR.out, List.getElem?_map, List.getElem?_eq_getElem hjl, hy]; rfl
            have hym : y ∈ ls := by rw [← hy]; exact List.getElem_mem hjl
            have hg2 := rem_get hRy hqg
            rw [hjr] at hg2
            have hql : q < y.fs.length := by
              rcases Nat.lt_or_ge q y.fs.length with h | h
              · exact h
              · rw [List.drop_of_length_le h] at hg2
                cases hg2
            have hgq : y.fs[q] = g := by
              rw [List.drop_eq_getElem_cons hql] at hg2
              injection hg2 with hg2
              injection hg2 with h1 _
              exact h1.symm
            have h0j := hc j (slV y) (by rw [List.getElem?_map, List.getElem?_eq_getElem hjl, hy]; rfl)
            have hyf := (hRw.out _ hBw).fs y hym
            have hy1 := hten.out y hym
            obtain ⟨yA, yf, yc⟩ := y
            simp only [slV] at h0j hyf hy1 hql hgq
            obtain ⟨by_, oy, rfl, hby, hcy⟩ := hyf.at_ (i := q) hql
            have hg0 := hcy q hql
            rw [hgq] at hg0
            obtain ⟨yn, hyn⟩ : ∃ yn, yf.length = yn := ⟨_, rfl⟩
            rw [hyn] at h0j hy1 hql
            have cq : wr.cell? ⟨Bf, j, none⟩ = some (.int .i64 (q : Int)) := by rw [hkw.cell]; exact psC_get hqg
            have hBf1 : Bf < wr.heap.size := hkw.lt
            have hlaw := befB_lt f g
            obtain ⟨bb, hbb⟩ : ∃ bb, befB f.k g.k (f.va : Int) (g.va : Int) (f.se : Int) (g.se : Int) (f.ki : Int) (g.ki : Int) = bb := ⟨_, rfl⟩
            rw [hbb] at hlaw
            have hnb : Hid (Best (rem R ps) (i + 1) (some (if bb = true then i else j))) := Lib.hid (by
              cases bb
              · exact hbest.out.step_not hjr hrs (fun h => by have := hlaw.2 h; cases this)
              · exact hbest.out.step_less hjr hrs (hlaw.1 rfl))
            obtain ⟨fk, fva, fse, fli, fki, fv⟩ := f
            obtain ⟨gk, gva, gse, gli, gki, gv⟩ := g
            simp only at hf0 hg0 hbb
            have pb := fun W => before_any W fk gk fv gv (fva : Int) (gva : Int) (fse : Int) (gse : Int) (fli : Int) (gli : Int) (fki : Int) (gki : Int)
            simp only [hbb] at pb
            have d4 : decide ((j : Int) < 0) = false := decide_eq_false (by omega)
            have hjj : (0 : Int) ≤ (j : Int) ∧ (j : Int) < (n : Int) := by omega
            have hpp : (0 : Int) ≤ (p : Int) ∧ (p : Int) < (xn : Int) := by omega
            have hqq : (0 : Int) ≤ (q : Int) ∧ (q : Int) < (yn : Int) := by omega
            have kS : ∀ W, Below wr.heap.size wr W → (W.cell? ⟨Bf, i, none⟩ = some (.int .i64 (p : Int)) ∧ W.cell? ⟨Bf, j, none⟩ = some (.int .i64 (q : Int)) ∧ W.cell? ⟨b0, o0 + i, none⟩ = some (.slice (some ⟨bx, ox, none⟩) xn xc) ∧ W.cell? ⟨b0, o0 + j, none⟩ = some (.slice (some ⟨by_, oy, none⟩) yn yc)) ∧
                (W.cell? ⟨bx, ox + p * 6, none⟩ = some (.string fk) ∧ W.cell? ⟨bx, ox + p * 6 + 1, none⟩ = some (.int .u32 (fva : Int)) ∧ W.cell? ⟨bx, ox + p * 6 + 2, none⟩ = some (.int .u64 (fse : Int)) ∧ W.cell? ⟨bx, ox + p * 6 + 3, none⟩ = some (.int .u64 (fli : Int)) ∧ W.cell? ⟨bx, ox + p * 6 + 4, none⟩ = some (.int .u8 (fki : Int)) ∧ W.cell? ⟨bx, ox + p * 6 + 5, none⟩ = some (.string fv)) ∧
                (W.cell? ⟨by_, oy + q * 6, none⟩ = some (.string gk) ∧ W.cell? ⟨by_, oy + q * 6 + 1, none⟩ = some (.int .u32 (gva : Int)) ∧ W.cell? ⟨by_, oy + q * 6 + 2, none⟩ = some (.int .u64 (gse : Int)) ∧ W.cell? ⟨by_, oy + q * 6 + 3, none⟩ = some (.int .u64 (gli : Int)) ∧ W.cell? ⟨by_, oy + q * 6 + 4, none⟩ = some (.int .u8 (gki : Int)) ∧ W.cell? ⟨by_, oy + q * 6 + 5, none⟩ = some (.string gv)) := fun W hW => by
              have hh := hbw2.out
              simp only [hW.cell (p := ⟨Bf, i, none⟩) hBf1, hW.cell (p := ⟨Bf, j, none⟩) hBf1, hW.cell (p := ⟨b0, o0 + i, none⟩) hh, hW.cell (p := ⟨b0, o0 + j, none⟩) hh, hW.cell (p := ⟨bx, ox + p * 6, none⟩) hbx, hW.cell (p := ⟨bx, ox + p * 6 + 1, none⟩) hbx, hW.cell (p := ⟨bx, ox + p * 6 + 2, none⟩) hbx, hW.cell (p := ⟨bx, ox + p * 6 + 3, none⟩) hbx, hW.cell (p := ⟨bx, ox + p * 6 + 4, none⟩) hbx, hW.cell (p := ⟨bx, ox + p * 6 + 5, none⟩) hbx, hW.cell (p := ⟨by_, oy + q * 6, none⟩) hby, hW.cell (p := ⟨by_, oy + q * 6 + 1, none⟩) hby, hW.cell (p := ⟨by_, oy + q * 6 + 2, none⟩) hby, hW.cell (p := ⟨by_, oy + q * 6 + 3, none⟩) hby, hW.cell (p := ⟨by_, oy + q * 6 + 4, none⟩) hby, hW.cell (p := ⟨by_, oy + q * 6 + 5, none⟩) hby]
              exact ⟨⟨cp, cq, h0, h0j⟩, hf0, hg0⟩
            simp only [bz]
            replace kS := Lib.hid kS
            replace hbest := Lib.hid hbest.out
            replace pb := Lib.hid pb
            clear hc hrow hxf hyf hk hcx hcy hf0 hg0 hrs hjr hlaw hbb h0j cq hg2 hgq hf hq hqg hRy hym hy hx hp
            go_wp2_with fail
            clear h0 cp
            have hfol : Try.prog.follows .mixedOrders = true := by kernel_rfl
            have hS0 : Below wr.heap.size wr wr.drew := (Below.refl _ _).drew
            refine wp_region_held (S := fun W => Below wr.heap.size wr W) hfol ?_
            refine wpAnyH_take (i := 0) (v := .slice (some ⟨Bf, 0, none⟩) n n) rfl (by kernel_rfl) (by kernel_rfl) (by kernel_rfl) (fun _ _ _ h => h) (.inl ⟨by kernel_rfl, fun W hW => by go_simp⟩) hS0 ?_
            try dsimp only [Act.put]
            try simp only [List.setIfInBounds_toArray, List.set_cons_zero, List.set_cons_succ]
            refine wpAnyH_take (i := 1) (v := .int .i64 (i : Int)) rfl (by kernel_rfl) (by kernel_rfl) (by kernel_rfl) (fun _ _ _ h => h) (.inl ⟨by kernel_rfl, fun W hW => by go_simp⟩) hS0 ?_
            try dsimp only [Act.put]
            try simp only [List.setIfInBounds_toArray, List.set_cons_zero, List.set_cons_succ]
            refine wpAnyH_take (i := 2) (v := .pointer (some ⟨Bf, i, none⟩)) rfl (by kernel_rfl) (by kernel_rfl) (by kernel_rfl) (fun _ _ _ h => h) (.inl ⟨by kernel_rfl, fun W hW => by go_simp⟩) hS0 ?_
            try dsimp only [Act.put]
            try simp only [List.setIfInBounds_toArray, List.set_cons_zero, List.set_cons_succ]
            refine wpAnyH_take (i := 3) (v := .int .i64 (p : Int)) rfl (by kernel_rfl) (by kernel_rfl) (by kernel_rfl) (fun _ _ _ h => h) (.inl ⟨by kernel_rfl, fun W hW => by have h1 := kS.out W hW; go_simp⟩) hS0 ?_
            try dsimp only [Act.put]
            try simp only [List.setIfInBounds_toArray, List.set_cons_zero, List.set_cons_succ]
            refine wpAnyH_take (i := 4) (v := .slice (some ⟨b0, o0, none⟩) n c) rfl (by kernel_rfl) (by kernel_rfl) (by kernel_rfl) (fun _ _ _ h => h) (.inl ⟨by kernel_rfl, fun W hW => by go_simp⟩) hS0 ?_
            try dsimp only [Act.put]
            try simp only [List.setIfInBounds_toArray, List.set_cons_zero, List.set_cons_succ]
            refine wpAnyH_take (i := 5) (v := .int .i64 (i : Int)) rfl (by kernel_rfl) (by kernel_rfl) (by kernel_rfl) (fun _ _ _ h => h) (.inl ⟨by kernel_rfl, fun W hW => by go_simp⟩) hS0 ?_
            try dsimp only [Act.put]
            try simp only [List.setIfInBounds_toArray, List.set_cons_zero, List.set_cons_succ]
            refine wpAnyH_take (i := 6) (v := .pointer (some ⟨b0, o0 + i, none⟩)) rfl (by kernel_rfl) (by kernel_rfl) (by kernel_rfl) (fun _ _ _ h => h) (.inl ⟨by kernel_rfl, fun W hW => by go_simp⟩) hS0 ?_
            try dsimp only [Act.put]
            try simp only [List.setIfInBounds_toArray, List.set_cons_zero, List.set_cons_succ]
            refine wpAnyH_take (i := 7) (v := .slice (some ⟨bx, ox, none⟩) xn xc) rfl (by kernel_rfl) (by kernel_rfl) (by kernel_rfl) (fun _ _ _ h => h) (.inl ⟨by kernel_rfl, fun W hW => by have h1 := kS.out W hW; go_simp⟩) hS0 ?_
            try dsimp only [Act.put]
            try simp only [List.setIfInBounds_toArray, List.set_cons_zero, List.set_cons_succ]
            refine wpAnyH_take (i := 8) (v := .int .i64 (xn : Int)) rfl (by kernel_rfl) (by kernel_rfl) (by kernel_rfl) (fun _ _ _ h => h) (.inl ⟨by kernel_rfl, fun W hW => by go_simp⟩) hS0 ?_
            try dsimp only [Act.put]
            try simp only [List.setIfInBounds_toArray, List.set_cons_zero, List.set_cons_succ]
            refine wpAnyH_take (i := 9) (v := .bool true) rfl (by kernel_rfl) (by kernel_rfl) (by kernel_rfl) (fun _ _ _ h => h) (.inl ⟨by kernel_rfl, fun W hW => by go_simp⟩) hS0 ?_
            try dsimp only [Act.put]
            try simp only [List.setIfInBounds_toArray, List.set_cons_zero, List.set_cons_succ]
            refine wpAnyH_take (i := 10) (v := .bool true) rfl (by kernel_rfl) (by kernel_rfl) (by kernel_rfl) (fun _ _ _ h => h) (.inl ⟨by kernel_rfl, fun W hW => by go_simp⟩) hS0 ?_
            try dsimp only [Act.put]
            try simp only [List.setIfInBounds_toArray, List.set_cons_zero, List.set_cons_succ]
            refine wpAnyH_take (i := 11) (v := .int .i64 (j : Int)) rfl (by kernel_rfl) (by kernel_rfl) (by kernel_rfl) (fun _ _ _ h => h) (.inl ⟨by kernel_rfl, fun W hW => by go_simp⟩) hS0 ?_
            try dsimp only [Act.put]
            try simp only [List.setIfInBounds_toArray, List.set_cons_zero, List.set_cons_succ]
            refine wpAnyH_take (i := 12) (v := .bool false) rfl (by kernel_rfl) (by kernel_rfl) (by kernel_rfl) (fun _ _ _ h => h) (.inl ⟨by kernel_rfl, fun W hW => by go_simp⟩) hS0 ?_
            try dsimp only [Act.put]
            try simp only [List.setIfInBounds_toArray, List.set_cons_zero, List.set_cons_succ]
            refine wpAnyH_take (i := 13) (v := .bool false) rfl (by kernel_rfl) (by kernel_rfl) (by kernel_rfl) (fun _ _ _ h => h) (.inl ⟨by kernel_rfl, fun W hW => by go_simp⟩) hS0 ?_
            try dsimp only [Act.put]
            try simp only [List.setIfInBounds_toArray, List.set_cons_zero, List.set_cons_succ]
            refine wpAnyH_take (i := 14) (v := .slice (some ⟨b0, o0, none⟩) n c) rfl (by kernel_rfl) (by kernel_rfl) (by kernel_rfl) (fun _ _ _ h => h) (.inl ⟨by kernel_rfl, fun W hW => by go_simp⟩) hS0 ?_
            try dsimp only [Act.put]
            try simp only [List.setIfInBounds_toArray, List.set_cons_zero, List.set_cons_succ]
            refine wpAnyH_take (i := 15) (v := .int .i64 (i : Int)) rfl (by kernel_rfl) (by kernel_rfl) (by kernel_rfl) (fun _ _ _ h => h) (.inl ⟨by kernel_rfl, fun W hW => by go_simp⟩) hS0 ?_
            try dsimp only [Act.put]
            try simp only [List.setIfInBounds_toArray, List.set_cons_zero, List.set_cons_succ]
            refine wpAnyH_take (i := 16) (v := .pointer (some ⟨b0, o0 + i, none⟩)) rfl (by kernel_rfl) (by kernel_rfl) (by kernel_rfl) (fun _ _ _ h => h) (.inl ⟨by kernel_rfl, fun W hW => by go_simp⟩) hS0 ?_
            try dsimp only [Act.put]
            try simp only [List.setIfInBounds_toArray, List.set_cons_zero, List.set_cons_succ]
            refine wpAnyH_take (i := 17) (v := .slice (some ⟨bx, ox, none⟩) xn xc) rfl (by kernel_rfl) (by kernel_rfl) (by kernel_rfl) (fun _ _ _ h => h) (.inl ⟨by kernel_rfl, fun W hW => by have h1 := kS.out W hW; go_simp⟩) hS0 ?_
            try dsimp only [Act.put]
            try simp only [List.setIfInBounds_toArray, List.set_cons_zero, List.set_cons_succ]
            refine wpAnyH_take (i := 18) (v := .slice (some ⟨Bf, 0, none⟩) n n) rfl (by kernel_rfl) (by kernel_rfl) (by kernel_rfl) (fun _ _ _ h => h) (.inl ⟨by kernel_rfl, fun W hW => by go_simp⟩) hS0 ?_
            try dsimp only [Act.put]
            try simp only [List.setIfInBounds_toArray, List.set_cons_zero, List.set_cons_succ]
            refine wpAnyH_take (i := 19) (v := .int .i64 (i : Int)) rfl (by kernel_rfl) (by kernel_rfl) (by kernel_rfl) (fun _ _ _ h => h) (.inl ⟨by kernel_rfl, fun W hW => by go_simp⟩) hS0 ?_
            try dsimp only [Act.put]
            try simp only [List.setIfInBounds_toArray, List.set_cons_zero, List.set_cons_succ]
            refine wpAnyH_take (i := 20) (v := .pointer (some ⟨Bf, i, none⟩)) rfl (by kernel_rfl) (by kernel_rfl) (by kernel_rfl) (fun _ _ _ h => h) (.inl ⟨by kernel_rfl, fun W hW => by go_simp⟩) hS0 ?_
            try dsimp only [Act.put]
            try simp only [List.setIfInBounds_toArray, List.set_cons_zero, List.set_cons_succ]
            refine wpAnyH_take (i := 21) (v := .int .i64 (p : Int)) rfl (by kernel_rfl) (by kernel_rfl) (by kernel_rfl) (fun _ _ _ h => h) (.inl ⟨by kernel_rfl, fun W hW => by have h1 := kS.out W hW; go_simp⟩) hS0 ?_
            try dsimp only [Act.put]
            try simp only [List.setIfInBounds_toArray, List.set_cons_zero, List.set_cons_succ]
            refine wpAnyH_take (i := 22) (v := .pointer (some ⟨bx, ox + p * 6, none⟩)) rfl (by kernel_rfl) (by kernel_rfl) (by kernel_rfl) (fun _ _ _ h => h) (.inl ⟨by kernel_rfl, fun W hW => by go_simp⟩) hS0 ?_
            try dsimp only [Act.put]
            try simp only [List.setIfInBounds_toArray, List.set_cons_zero, List.set_cons_succ]
            refine wpAnyH_take (i := 23) (v := .agg #[.string fk, .int .u32 (fva : Int), .int .u64 (fse : Int), .int .u64 (fli : Int), .int .u8 (fki : Int), .string fv]) rfl (by kernel_rfl) (by kernel_rfl) (by kernel_rfl) (fun _ _ _ h => h) (.inl ⟨by kernel_rfl, fun W hW => by have h1 := kS.out W hW; go_simp⟩) hS0 ?_
            try dsimp only [Act.put]
            try simp only [List.setIfInBounds_toArray, List.set_cons_zero, List.set_cons_succ]
            refine wpAnyH_take (i := 24) (v := .slice (some ⟨b0, o0, none⟩) n c) rfl (by kernel_rfl) (by kernel_rfl) (by kernel_rfl) (fun _ _ _ h => h) (.inl ⟨by kernel_rfl, fun W hW => by go_simp⟩) hS0 ?_
            try dsimp only [Act.put]
            try simp only [List.setIfInBounds_toArray, List.set_cons_zero, List.set_cons_succ]
            refine wpAnyH_take (i := 25) (v := .int .i64 (j : Int)) rfl (by kernel_rfl) (by kernel_rfl) (by kernel_rfl) (fun _ _ _ h => h) (.inl ⟨by kernel_rfl, fun W hW => by go_simp⟩) hS0 ?_
            try dsimp only [Act.put]
            try simp only [List.setIfInBounds_toArray, List.set_cons_zero, List.set_cons_succ]
            refine wpAnyH_take (i := 26) (v := .pointer (some ⟨b0, o0 + j, none⟩)) rfl (by kernel_rfl) (by kernel_rfl) (by kernel_rfl) (fun _ _ _ h => h) (.inl ⟨by kernel_rfl, fun W hW => by go_simp⟩) hS0 ?_
            try dsimp only [Act.put]
            try simp only [List.setIfInBounds_toArray, List.set_cons_zero, List.set_cons_succ]
            refine wpAnyH_take (i := 27) (v := .slice (some ⟨by_, oy, none⟩) yn yc) rfl (by kernel_rfl) (by kernel_rfl) (by kernel_rfl) (fun _ _ _ h => h) (.inl ⟨by kernel_rfl, fun W hW => by have h1 := kS.out W hW; go_simp⟩) hS0 ?_
            try dsimp only [Act.put]
            try simp only [List.setIfInBounds_toArray, List.set_cons_zero, List.set_cons_succ]
            refine wpAnyH_take (i := 28) (v := .slice (some ⟨Bf, 0, none⟩) n n) rfl (by kernel_rfl) (by kernel_rfl) (by kernel_rfl) (fun _ _ _ h => h) (.inl ⟨by kernel_rfl, fun W hW => by go_simp⟩) hS0 ?_
            try dsimp only [Act.put]
            try simp only [List.setIfInBounds_toArray, List.set_cons_zero, List.set_cons_succ]
            refine wpAnyH_take (i := 29) (v := .int .i64 (j : Int)) rfl (by kernel_rfl) (by kernel_rfl) (by kernel_rfl) (fun _ _ _ h => h) (.inl ⟨by kernel_rfl, fun W hW => by go_simp⟩) hS0 ?_
            try dsimp only [Act.put]
            try simp only [List.setIfInBounds_toArray, List.set_cons_zero, List.set_cons_succ]
            refine wpAnyH_take (i := 30) (v := .pointer (some ⟨Bf, j, none⟩)) rfl (by kernel_rfl) (by kernel_rfl) (by kernel_rfl) (fun _ _ _ h => h) (.inl ⟨by kernel_rfl, fun W hW => by go_simp⟩) hS0 ?_
            try dsimp only [Act.put]
            try simp only [List.setIfInBounds_toArray, List.set_cons_zero, List.set_cons_succ]
            refine wpAnyH_take (i := 31) (v := .int .i64 (q : Int)) rfl (by kernel_rfl) (by kernel_rfl) (by kernel_rfl) (fun _ _ _ h => h) (.inl ⟨by kernel_rfl, fun W hW => by have h1 := kS.out W hW; go_simp⟩) hS0 ?_
            try dsimp only [Act.put]
            try simp only [List.setIfInBounds_toArray, List.set_cons_zero, List.set_cons_succ]
            refine wpAnyH_take (i := 32) (v := .pointer (some ⟨by_, oy + q * 6, none⟩)) rfl (by kernel_rfl) (by kernel_rfl) (by kernel_rfl) (fun _ _ _ h => h) (.inl ⟨by kernel_rfl, fun W hW => by go_simp⟩) hS0 ?_
            try dsimp only [Act.put]
            try simp only [List.setIfInBounds_toArray, List.set_cons_zero, List.set_cons_succ]
            refine wpAnyH_take (i := 33) (v := .agg #[.string gk, .int .u32 (gva : Int), .int .u64 (gse : Int), .int .u64 (gli : Int), .int .u8 (gki : Int), .string gv]) rfl (by kernel_rfl) (by kernel_rfl) (by kernel_rfl) (fun _ _ _ h => h) (.inl ⟨by kernel_rfl, fun W hW => by have h1 := kS.out W hW; go_simp⟩) hS0 ?_
            try dsimp only [Act.put]
            try simp only [List.setIfInBounds_toArray, List.set_cons_zero, List.set_cons_succ]
            refine wpAnyH_ready (rs := [34]) (by kernel_rfl) (by simp) (AllReadyH.cons rfl (fun K' hK => ?_) AllReadyH.nil)
            go_simp
            go_at_call 25
            refine (pb.out _).mono ?_
            rintro _ w7 ⟨rfl, b7⟩
            have hS1 : Below wr.heap.size wr w7 := hS0.trans (b7.mono hS0.size)
            refine hK.out _ _ hS1 (fun _ => ?_)
            clear hK K'
            try dsimp only [Act.put]
            try simp only [List.setIfInBounds_toArray, List.set_cons_zero, List.set_cons_succ]
            refine wpAnyH_take (i := 35) (v := .bool bb) rfl (by kernel_rfl) (by kernel_rfl) (by kernel_rfl) (fun _ _ _ h => h) (.inl ⟨by kernel_rfl, fun W hW => by go_simp⟩) hS1 ?_
            try dsimp only [Act.put]
            try simp only [List.setIfInBounds_toArray, List.set_cons_zero, List.set_cons_succ]
            refine wpAnyH_take (i := 36) (v := .bool bb) rfl (by kernel_rfl) (by kernel_rfl) (by kernel_rfl) (fun _ _ _ h => h) (.inl ⟨by kernel_rfl, fun W hW => by go_simp⟩) hS1 ?_
            try dsimp only [Act.put]
            try simp only [List.setIfInBounds_toArray, List.set_cons_zero, List.set_cons_succ]
            refine wpAnyH_done (by kernel_rfl) ?_ _
            have hB7 := hB5.trans (hS1.mono hB5.size)
            clear hS0 hS1 b7 kS pb
            cases bb
            · go_wp2
              go_roundw
              case rel => exact ⟨i + 1, some j, by omega, rfl, by go_num, hnb, hB7⟩
              case measure => simp [intOf] <;> omega
            · go_wp2
              go_roundw
              case rel => exact ⟨i + 1, some i, by omega, rfl, by go_num, hnb, hB7⟩
              case measure => simp [intOf] <;> omega
        · have d3 : decide ((p : Int) < (xn : Int)) = false := decide_eq_false (by omega)
          have d3n : decide (p < xn) = false := decide_eq_false hpx
          have hnb : Hid (Best (rem R ps) (i + 1) b) := Lib.hid (hbest.out.step_none (rem_done hRx.out hpg.out (by omega)))
          clear hc hrow hxf hk
          go_wp2_with fail
          go_quiet (fail)
          go_wp2
          go_roundw
          case rel => exact ⟨i + 1, b, by omega, rfl, by go_num, hnb, below_drewN hB5 _⟩
          case measure => simp [intOf] <;> omega
      · obtain rfl : i = n := by omega
        have d2 : decide ((i : Int) < (i : Int)) = false := decide_eq_false (by omega)
        have hrl : (rem R ps).length = i := by rw [rem_len (by rw [hpl.out, hRl.out]), hRl.out]
        have hown5 : wr.ownsRow (Bf + 1) 44 6 _ m (ftC (dd raw)) := (KeepBut.of_below hB5 (S := fun _ => False)).own hown.out (fun _ _ e => e)
        replace hown5 := Lib.hid hown5
        cases b with
        | none =>
          obtain ⟨A6, c6, rfl⟩ := own_slice hown5.out
          have hmg : Merge R raw := by
            have h1 := hbest.out
            rw [← hrl] at h1
            have := hpre.out [] (best_end h1)
            simpa using this
          replace hmg := Lib.hid hmg
          simp only [bz]
          go_wp2_with fail
          go_ret
          exact ⟨raw, A6, m, c6, hmg.out, hm.out, rfl, own_base hown5.out (by omega), hBw⟩
        | some j =>
          have hji : j < i := best_ge hbest.out
          obtain ⟨_, g, t, hjr, _⟩ := id hbest.out
          have hjl : j < ls.length := by rw [hn.out]; exact hji
          have hjp : j < ps.length := by rw [hpl.out]; exact hji
          obtain ⟨y, hy⟩ : ∃ y, ls[j] = y := ⟨_, rfl⟩
          obtain ⟨q, hq⟩ : ∃ q, ps[j] = q := ⟨_, rfl⟩
          have hqg : ps[j]? = some q := by rw [List.getElem?_eq_getElem hjp, hq]
          have hRy : R[j]? = some y.fs := by rw [← hRR.out, List.getElem?_map, List.getElem?_eq_getElem hjl, hy]; rfl
          have hym : y ∈ ls := by rw [← hy]; exact List.getElem_mem hjl
          have hg2 := rem_get hRy hqg
          rw [hjr] at hg2
          have hql : q < y.fs.length := by
            rcases Nat.lt_or_ge q y.fs.length with h | h
            · exact h
            · rw [List.drop_of_length_le h] at hg2
              cases hg2
          have hgt : g = y.fs[q] ∧ t = y.fs.drop (q + 1) := by
            rw [List.drop_eq_getElem_cons hql] at hg2
            injection hg2 with hg2
            injection hg2 with h1 h2
            exact ⟨h1, h2⟩
          have hset : (rem R ps).set j t = rem R (ps.set j (q + 1)) := by rw [hgt.2]; exact rem_set hRy hqg
          have hpre2 : ∀ rest, Merge (rem R (ps.set j (q + 1))) rest → Merge R ((raw ++ [g]) ++ rest) := fun rest hr => by
            have h1 := hbest.out
            rw [← hrl] at h1
            rw [← hset] at hr
            have := hpre.out _ (best_step h1 hjr hr)
            simpa using this
          have hsum2 : (ps.set j (q + 1)).sum = (raw ++ [g]).length ∧ (raw ++ [g]).length + total (rem R (ps.set j (q + 1))) = total R := by
            have h1 := sum_set hqg
            have h2 := total_set hjr
            rw [hset] at h2
            have h3 := hsum.out
            simp only [List.length_append, List.length_singleton]
            omega
          have hrow := (hRw.out _ hBw).row
          rw [hn.out] at hrow
          obtain ⟨b0, o0, rfl, hb0, hc⟩ := hrow.at_ hji
          have h0j := hc j (slV y) (by rw [List.getElem?_map, List.getElem?_eq_getElem hjl, hy]; rfl)
          have hyf := (hRw.out _ hBw).fs y hym
          have hy1 := hten.out y hym
          obtain ⟨yA, yf, yc⟩ := y
          simp only [slV] at h0j hyf hy1 hql hgt
          obtain ⟨by_, oy, rfl, hby, hcy⟩ := hyf.at_ (i := q) hql
          have hg0 := hcy q hql
          rw [← hgt.1] at hg0
          obtain ⟨yn, hyn⟩ : ∃ yn, yf.length = yn := ⟨_, rfl⟩
          rw [hyn] at h0j hy1 hql
          have hkw := hk.below hB5 hk.lt
          have cq : wr.cell? ⟨Bf, j, none⟩ = some (.int .i64 (q : Int)) := by rw [hkw.cell]; exact psC_get hqg
          have hm2 : m ≤ raw.length := by rw [← hm.out]; exact (dd_sub raw).length_le
          have hrt : raw.length + 1 ≤ 1000 := by
            have h1 := hsum2.2
            have h2 := htot.out
            simp only [List.length_append, List.length_singleton] at h1
            omega
          have d4 : decide ((j : Int) < 0) = false := decide_eq_false (by omega)
          have hjj : (0 : Int) ≤ (j : Int) ∧ (j : Int) < (i : Int) := by omega
          have hqq : (0 : Int) ≤ (q : Int) ∧ (q : Int) < (yn : Int) := by omega
          replace hpre2 := Lib.hid hpre2
          replace hsum2 := Lib.hid hsum2
          replace hyn := Lib.hid hyn
          replace hkw := Lib.hid hkw
          replace hbest := Lib.hid hbest.out
          replace hqg := Lib.hid hqg
          clear hc hrow hyf hcy hset hgt hg2 hym hRy hq hy hjp hjl hjr hk hown hrl
          obtain ⟨gk, gva, gse, gli, gki, gv⟩ := g
          simp only at hg0
          have hBf1 : Bf < wr.heap.size := hkw.out.lt
          have kS : ∀ W, Below wr.heap.size wr W → (W.cell? ⟨Bf, j, none⟩ = some (.int .i64 (q : Int)) ∧ W.cell? ⟨b0, o0 + j, none⟩ = some (.slice (some ⟨by_, oy, none⟩) yn yc)) ∧
              (W.cell? ⟨by_, oy + q * 6, none⟩ = some (.string gk) ∧ W.cell? ⟨by_, oy + q * 6 + 1, none⟩ = some (.int .u32 (gva : Int)) ∧ W.cell? ⟨by_, oy + q * 6 + 2, none⟩ = some (.int .u64 (gse : Int)) ∧ W.cell? ⟨by_, oy + q * 6 + 3, none⟩ = some (.int .u64 (gli : Int)) ∧ W.cell? ⟨by_, oy + q * 6 + 4, none⟩ = some (.int .u8 (gki : Int)) ∧ W.cell? ⟨by_, oy + q * 6 + 5, none⟩ = some (.string gv)) := fun W hW => by
            simp only [hW.cell (p := ⟨Bf, j, none⟩) hBf1, hW.cell (p := ⟨b0, o0 + j, none⟩) hb0, hW.cell (p := ⟨by_, oy + q * 6, none⟩) hby, hW.cell (p := ⟨by_, oy + q * 6 + 1, none⟩) hby, hW.cell (p := ⟨by_, oy + q * 6 + 2, none⟩) hby, hW.cell (p := ⟨by_, oy + q * 6 + 3, none⟩) hby, hW.cell (p := ⟨by_, oy + q * 6 + 4, none⟩) hby, hW.cell (p := ⟨by_, oy + q * 6 + 5, none⟩) hby]
            exact ⟨⟨cq, h0j⟩, hg0⟩
          replace kS := Lib.hid kS
          simp only [bz]
          go_wp2_with fail
          clear h0j hg0 cq
          have hfol : Try.prog.follows .mixedOrders = true := by kernel_rfl
          have hS0 : Below wr.heap.size wr wr.drew := (Below.refl _ _).drew
          refine wp_region_held (S := fun W => Below wr.heap.size wr W) hfol ?_
          refine wpAnyH_take (i := 0) (v := .slice (some ⟨b0, o0, none⟩) i c) rfl (by kernel_rfl) (by kernel_rfl) (by kernel_rfl) (fun _ _ _ h => h) (.inl ⟨by kernel_rfl, fun W hW => by go_simp⟩) hS0 ?_
          try dsimp only [Act.put]
          try simp only [List.setIfInBounds_toArray, List.set_cons_zero, List.set_cons_succ]
          refine wpAnyH_take (i := 1) (v := .int .i64 (j : Int)) rfl (by kernel_rfl) (by kernel_rfl) (by kernel_rfl) (fun _ _ _ h => h) (.inl ⟨by kernel_rfl, fun W hW => by go_simp⟩) hS0 ?_
          try dsimp only [Act.put]
          try simp only [List.setIfInBounds_toArray, List.set_cons_zero, List.set_cons_succ]
          refine wpAnyH_take (i := 2) (v := .pointer (some ⟨b0, o0 + j, none⟩)) rfl (by kernel_rfl) (by kernel_rfl) (by kernel_rfl) (fun _ _ _ h => h) (.inl ⟨by kernel_rfl, fun W hW => by go_simp⟩) hS0 ?_
          try dsimp only [Act.put]
          try simp only [List.setIfInBounds_toArray, List.set_cons_zero, List.set_cons_succ]
          refine wpAnyH_take (i := 3) (v := .slice (some ⟨by_, oy, none⟩) yn yc) rfl (by kernel_rfl) (by kernel_rfl) (by kernel_rfl) (fun _ _ _ h => h) (.inl ⟨by kernel_rfl, fun W hW => by have h1 := kS.out W hW; go_simp⟩) hS0 ?_
          try dsimp only [Act.put]
          try simp only [List.setIfInBounds_toArray, List.set_cons_zero, List.set_cons_succ]
          refine wpAnyH_take (i := 4) (v := .slice (some ⟨Bf, 0, none⟩) i i) rfl (by kernel_rfl) (by kernel_rfl) (by kernel_rfl) (fun _ _ _ h => h) (.inl ⟨by kernel_rfl, fun W hW => by go_simp⟩) hS0 ?_
          try dsimp only [Act.put]
          try simp only [List.setIfInBounds_toArray, List.set_cons_zero, List.set_cons_succ]
          refine wpAnyH_take (i := 5) (v := .int .i64 (j : Int)) rfl (by kernel_rfl) (by kernel_rfl) (by kernel_rfl) (fun _ _ _ h => h) (.inl ⟨by kernel_rfl, fun W hW => by go_simp⟩) hS0 ?_
          try dsimp only [Act.put]
          try simp only [List.setIfInBounds_toArray, List.set_cons_zero, List.set_cons_succ]
          refine wpAnyH_take (i := 6) (v := .pointer (some ⟨Bf, j, none⟩)) rfl (by kernel_rfl) (by kernel_rfl) (by kernel_rfl) (fun _ _ _ h => h) (.inl ⟨by kernel_rfl, fun W hW => by go_simp⟩) hS0 ?_
          try dsimp only [Act.put]
          try simp only [List.setIfInBounds_toArray, List.set_cons_zero, List.set_cons_succ]
          refine wpAnyH_take (i := 7) (v := .int .i64 (q : Int)) rfl (by kernel_rfl) (by kernel_rfl) (by kernel_rfl) (fun _ _ _ h => h) (.inl ⟨by kernel_rfl, fun W hW => by have h1 := kS.out W hW; go_simp⟩) hS0 ?_
          try dsimp only [Act.put]
          try simp only [List.setIfInBounds_toArray, List.set_cons_zero, List.set_cons_succ]
          refine wpAnyH_take (i := 8) (v := .pointer (some ⟨by_, oy + q * 6, none⟩)) rfl (by kernel_rfl) (by kernel_rfl) (by kernel_rfl) (fun _ _ _ h => h) (.inl ⟨by kernel_rfl, fun W hW => by go_simp⟩) hS0 ?_
          try dsimp only [Act.put]
          try simp only [List.setIfInBounds_toArray, List.set_cons_zero, List.set_cons_succ]
          refine wpAnyH_take (i := 9) (v := .agg #[.string gk, .int .u32 (gva : Int), .int .u64 (gse : Int), .int .u64 (gli : Int), .int .u8 (gki : Int), .string gv]) rfl (by kernel_rfl) (by kernel_rfl) (by kernel_rfl) (fun _ _ _ h => h) (.inl ⟨by kernel_rfl, fun W hW => by have h1 := kS.out W hW; go_simp⟩) hS0 ?_
          try dsimp only [Act.put]
          try simp only [List.setIfInBounds_toArray, List.set_cons_zero, List.set_cons_succ]
          refine wpAnyH_ready (rs := [10]) (by kernel_rfl) (by simp) (AllReadyH.cons rfl (fun K' hK => ?_) AllReadyH.nil)
          go_simp
          have hS1 := hS0.alloc hS0.size (.cells #[.string ⟨#[]⟩, .int .u32 0, .int .u64 0, .int .u64 0, .int .u8 0, .string ⟨#[]⟩] 44)
          have kz := Blk.new wr.drew 44 #[.string ⟨#[]⟩, .int .u32 0, .int .u64 0, .int .u64 0, .int .u8 0, .string ⟨#[]⟩]
          refine hK.out _ _ hS1 (fun _ => ?_)
          clear hK K'
          try dsimp only [Act.put]
          try simp only [List.setIfInBounds_toArray, List.set_cons_zero, List.set_cons_succ]
          refine wpAnyH_ready (rs := [11]) (by kernel_rfl) (by simp) (AllReadyH.cons rfl (fun K' hK => ?_) AllReadyH.nil)
          have cz := kz.cell
          have fz := kz.frozen
          go_simp
          have hS2 : Below wr.heap.size wr (wr.alloc (.cells #[.string gk, .int .u32 (gva : Int), .int .u64 (gse : Int), .int .u64 (gli : Int), .int .u8 (gki : Int), .string gv] 44)).drew := ((Below.refl _ _).alloc (Nat.le_refl _) _).drew
          refine hK.out _ _ hS2 (fun _ => ?_)
          clear hK K' cz fz kz hS1 hS0
          try dsimp only [Act.put]
          try simp only [List.setIfInBounds_toArray, List.set_cons_zero, List.set_cons_succ]
          refine wpAnyH_done (by kernel_rfl) ?_ _
          have kf6 : Blk (wr.alloc (.cells #[.string gk, .int .u32 (gva : Int), .int .u64 (gse : Int), .int .u64 (gli : Int), .int .u8 (gki : Int), .string gv] 44)).drew wr.heap.size 44 #[.string gk, .int .u32 (gva : Int), .int .u64 (gse : Int), .int .u64 (gli : Int), .int .u8 (gki : Int), .string gv] := Blk.new wr _ _
          obtain ⟨w6, hw6⟩ : ∃ w6, (wr.alloc (.cells #[.string gk, .int .u32 (gva : Int), .int .u64 (gse : Int), .int .u64 (gli : Int), .int .u8 (gki : Int), .string gv] 44)).drew = w6 := ⟨_, rfl⟩
          rw [hw6] at kf6 hS2 ⊢
          clear hw6
          have hk6 := hkw.out.below hS2 hkw.out.lt
          have hown6 := (KeepBut.of_below hS2 (S := fun _ => False)).own hown5.out (fun _ _ e => e)
          have hB6 : Below Bf w w6 := hBw.trans (hS2.mono (by omega))
          have sz6 : Bf + 1 ≤ w6.heap.size := by have := hS2.size; omega
          have ff : ∀ i, w6.frozen? ⟨Bf, i, none⟩ = false := hk6.frozen
          have cq6 : w6.cell? ⟨Bf, j, none⟩ = some (.int .i64 (q : Int)) := by rw [hk6.cell]; exact psC_get hqg.out
          obtain ⟨w7, hw7⟩ : ∃ w7, w6.setCell ⟨Bf, j, none⟩ (.int .i64 ((q : Int) + 1)) = w7 := ⟨_, rfl⟩
          have kS7 : KeepBut (fun x => x = Bf) w6 w7 := by rw [← hw7]; exact KeepBut.set_at _ _ _ _
          have hk7 : Blk w7 Bf 3 (psC (ps.set j (q + 1))).toArray := by
            have h1 := hk6.store j (.int .i64 ((q : Int) + 1))
            rw [hw7] at h1
            have e : (psC (ps.set j (q + 1))).toArray = (psC ps).toArray.setIfInBounds j (.int .i64 ((q : Int) + 1)) := by simp [psC, List.map_set]
            rw [e]
            exact h1
          have kf7 := kS7.blk kf6 (by omega)
          have hown7 := own_keepS kS7 hown6 (fun k h e => by omega)
          have hB7 : Below Bf w w7 := by rw [← hw7]; exact hB6.setCell (p := ⟨Bf, j, none⟩) (Nat.le_refl _) _
          have sz7 : Bf + 1 ≤ w7.heap.size := Nat.le_trans sz6 kS7.size
          have hpl2 : (ps.set j (q + 1)).length = i := by rw [List.length_set, hpl.out]
          obtain ⟨A6, c6, rfl⟩ := own_slice hown7
          have hfs7 : Fs w7 A6 (dd raw) := by unfold Fs; rw [hm.out]; exact Rd.of_own hown7
          have cf7 := kf7.cell
          have hq1 : q < 1000 := by omega
          have hmm1 : m ≤ 999 := by omega
          have hmes : ∀ W, Blk W Bf 3 (psC (ps.set j (q + 1))).toArray → 1001 - atSum W Bf < 1001 - ps.sum := fun W hW => by
            rw [atSum_eq hW]
            have h1 := hsum2.out
            have h2 := hsum.out
            simp only [List.length_append, List.length_singleton] at h1
            have h3 := htot.out
            omega
          have hgd : Try.prog.eqGuardType Try.prog.depth 44 = false := by kernel_rfl
          replace hmes := Lib.hid hmes
          replace hw7 := Lib.hid hw7
          replace hk7 := Lib.hid hk7
          replace kf7 := Lib.hid kf7
          replace hown7 := Lib.hid hown7
          replace hB7 := Lib.hid hB7
          replace sz7 := Lib.hid sz7
          replace hpl2 := Lib.hid hpl2
          clear kS7 hk6 hown6 hB6 sz6 kf6 hS2 kS hkw hown5
          go_wp2_with (first | rw [hw7.out] | fail)
          by_cases hm0 : m = 0
          · have d5 : ((m : Int) == 0) = true := by simp [hm0]
            have hddn : dd (raw ++ [⟨gk, gva, gse, gli, gki, gv⟩]) = dd raw ++ [⟨gk, gva, gse, gli, gki, gv⟩] := by
              rw [dd_snoc]
              unfold ddS
              rw [if_neg]
              have := hm.out
              rw [hm0] at this
              rw [List.eq_nil_of_length_eq_zero this]
              intro e; cases e
            replace hddn := Lib.hid hddn
            replace hm0 := Lib.hid hm0
            go_quiet (fail)
            generalize hwq : World.drewN w7 _ = wq
            have kq : KeepBut (fun _ => False) w7 wq := by rw [← hwq]; exact (KeepBut.refl w7).drewN _
            replace hwq := Lib.hid hwq
            have kfq := kq.blk kf7.out (fun e => e)
            have hkq := kq.blk hk7.out (fun e => e)
            have howq := kq.own hown7.out (fun _ _ e => e)
            have hBq : Below Bf w wq := hB7.out.trans (kq.below (by have := sz7.out; omega) (fun _ e => e.elim))
            have szq : Bf + 1 ≤ wq.heap.size := Nat.le_trans sz7.out kq.size
            have cfq := kfq.cell
            have how8 := howq.alloc (.cells #[.string gk, .int .u32 (gva : Int), .int .u64 (gse : Int), .int .u64 (gli : Int), .int .u8 (gki : Int), .string gv] 44)
            have hk8 := hkq.alloc (.cells #[.string gk, .int .u32 (gva : Int), .int .u64 (gse : Int), .int .u64 (gli : Int), .int .u8 (gki : Int), .string gv] 44)
            have rd8 : Rd (wq.alloc (.cells #[.string gk, .int .u32 (gva : Int), .int .u64 (gse : Int), .int .u64 (gli : Int), .int .u8 (gki : Int), .string gv] 44)) 6 (some ⟨wq.heap.size, 0, none⟩) 1 (ftC [⟨gk, gva, gse, gli, gki, gv⟩]) := Rd.ft wq 44 ⟨gk, gva, gse, gli, gki, gv⟩
            have sz8 : Bf + 1 ≤ (wq.alloc (.cells #[.string gk, .int .u32 (gva : Int), .int .u64 (gse : Int), .int .u64 (gli : Int), .int .u8 (gki : Int), .string gv] 44)).heap.size := by simp; omega
            have hB8 := hBq.alloc (by omega) (.cells #[.string gk, .int .u32 (gva : Int), .int .u64 (gse : Int), .int .u64 (gli : Int), .int .u8 (gki : Int), .string gv] 44)
            have one8 : Hid (∀ u ∈ ftC [(⟨gk, gva, gse, gli, gki, gv⟩ : Ft)], u.oneCell' = true) := Lib.hid (ftC_one _)
            replace how8 := Lib.hid how8
            replace hk8 := Lib.hid hk8
            replace rd8 := Lib.hid rd8
            replace sz8 := Lib.hid sz8
            replace hB8 := Lib.hid hB8
            clear hkq howq hBq szq cf7 kf7 hfs7 kq hk7
            go_wp2_with (first | (at_builtin; refine wpList_app _ rfl (.tmp 87) (.tmp 89) rfl Try.underlying26 ftInfo rfl (by omega) how8.out rfl _ 1 1 rd8.out rfl one8.out (by unfold maxLen; omega) (by omega) sz8.out ?_; intro v2 w9 hown2 hgrow2 hlies2) | fail)
            have hm9 : Hid ((dd (raw ++ [⟨gk, gva, gse, gli, gki, gv⟩])).length = m + 1) := Lib.hid (by rw [hddn.out, List.length_append, hm.out]; rfl)
            have ho9 : w9.ownsRow (Bf + 1) 44 6 v2 (m + 1) (ftC (dd (raw ++ [⟨gk, gva, gse, gli, gki, gv⟩]))) := by rw [hddn.out, ftC_append]; exact hown2
            have kg2 : KeepBut (fun x => some x = (Value.slice A6 (m) c6).ownBlock) _ w9 := KeepBut.of_grown hgrow2 (fun x e => e.symm)
            have hk9 := kg2.blk hk8.out (fun e => by have := (how8.out.lt Bf e.symm).1; omega)
            have hB9 := below_app hB8.out how8.out (by omega) (by have := sz8.out; omega) hgrow2
            have sz9 := Nat.le_trans sz8.out hgrow2.size
            replace ho9 := Lib.hid ho9
            go_roundw
            case rel => exact ⟨ps.set j (q + 1), raw ++ [⟨gk, gva, gse, gli, gki, gv⟩], m + 1, hpl2, hpre2, hk9, hm9, hsum2, by omega, ho9.out, hB9, sz9⟩
            case measure => rw [atSum_eq hk0.out]; exact hmes.out _ hk9
          · obtain ⟨r, rfl⟩ : ∃ r, m = r + 1 := ⟨m - 1, by omega⟩
            have d5 : (((r + 1 : Nat) : Int) == 0) = false := by simp; omega
            have d6 : ((r : Int) + 1 == 0) = false := by simp; omega
            obtain ⟨b6, o6, rfl, _, hc6⟩ := hfs7.at_ (i := r) (by rw [hm.out]; omega)
            have hc0 := hc6 r (by rw [hm.out]; omega)
            obtain ⟨f0, hf0⟩ : ∃ f0, (dd raw)[r]'(by rw [hm.out]; omega) = f0 := ⟨_, rfl⟩
            rw [hf0] at hc0
            have hlast : (dd raw).getLast? = some f0 := by
              rw [List.getLast?_eq_getElem?, hm.out, Nat.add_sub_cancel, List.getElem?_eq_getElem (by rw [hm.out]; omega), hf0]
            have heq := fun W => fact_eqv W f0 ⟨gk, gva, gse, gli, gki, gv⟩
            obtain ⟨xk, xva, xse, xli, xki, xv⟩ := f0
            simp only at hc0
            clear hc6 hf0
            have hrr : (0 : Int) ≤ (r : Int) ∧ (r : Int) < (r : Int) + 1 := by omega
            have hwrk : IntKind.i64.wrap (r : Int) = (r : Int) := IntWalk.i64_in _ (by omega)
            by_cases hff : (⟨xk, xva, xse, xli, xki, xv⟩ : Ft) = ⟨gk, gva, gse, gli, gki, gv⟩
            · have hdds : dd (raw ++ [⟨gk, gva, gse, gli, gki, gv⟩]) = dd raw := by
                rw [dd_snoc]
                unfold ddS
                rw [if_pos (by rw [hlast, hff])]
              simp only [decide_eq_true hff, Ft.val] at heq
              replace hff := Lib.hid hff
              replace hlast := Lib.hid hlast
              replace hdds := Lib.hid hdds
              go_quiet (fail)
              generalize hwq : World.drewN w7 _ = wq
              have kq : KeepBut (fun _ => False) w7 wq := by rw [← hwq]; exact (KeepBut.refl w7).drewN _
              replace hwq := Lib.hid hwq
              have hkq := kq.blk hk7.out (fun e => e)
              have howq := kq.own hown7.out (fun _ _ e => e)
              have hBq : Below Bf w wq := hB7.out.trans (kq.below (by have := sz7.out; omega) (fun _ e => e.elim))
              have szq : Bf + 1 ≤ wq.heap.size := Nat.le_trans sz7.out kq.size
              rw [← hdds.out] at howq
              clear heq
              go_wp2
              go_roundw
              case rel => exact ⟨ps.set j (q + 1), raw ++ [⟨gk, gva, gse, gli, gki, gv⟩], r + 1, hpl2, hpre2, hkq, Lib.hid (by rw [hdds.out]; exact hm.out), hsum2, by omega, howq, hBq, szq⟩
              case measure => rw [atSum_eq hk0.out]; exact hmes.out _ hkq
            · have hddn : dd (raw ++ [⟨gk, gva, gse, gli, gki, gv⟩]) = dd raw ++ [⟨gk, gva, gse, gli, gki, gv⟩] := by
                rw [dd_snoc]
                unfold ddS
                rw [if_neg]
                rw [hlast]
                intro e
                injection e with e
                exact hff e
              simp only [decide_eq_false hff, Ft.val] at heq
              replace hff := Lib.hid hff
              replace hlast := Lib.hid hlast
              replace hddn := Lib.hid hddn
              go_quiet (fail)
              clear heq hc0
              generalize hwq : World.drewN w7 _ = wq
              have kq : KeepBut (fun _ => False) w7 wq := by rw [← hwq]; exact (KeepBut.refl w7).drewN _
              replace hwq := Lib.hid hwq
              have kfq := kq.blk kf7.out (fun e => e)
              have hkq := kq.blk hk7.out (fun e => e)
              have howq := kq.own hown7.out (fun _ _ e => e)
              have hBq : Below Bf w wq := hB7.out.trans (kq.below (by have := sz7.out; omega) (fun _ e => e.elim))
              have szq : Bf + 1 ≤ wq.heap.size := Nat.le_trans sz7.out kq.size
              have cfq := kfq.cell
              have how8 := howq.alloc (.cells #[.string gk, .int .u32 (gva : Int), .int .u64 (gse : Int), .int .u64 (gli : Int), .int .u8 (gki : Int), .string gv] 44)
              have hk8 := hkq.alloc (.cells #[.string gk, .int .u32 (gva : Int), .int .u64 (gse : Int), .int .u64 (gli : Int), .int .u8 (gki : Int), .string gv] 44)
              have rd8 : Rd (wq.alloc (.cells #[.string gk, .int .u32 (gva : Int), .int .u64 (gse : Int), .int .u64 (gli : Int), .int .u8 (gki : Int), .string gv] 44)) 6 (some ⟨wq.heap.size, 0, none⟩) 1 (ftC [⟨gk, gva, gse, gli, gki, gv⟩]) := Rd.ft wq 44 ⟨gk, gva, gse, gli, gki, gv⟩
              have sz8 : Bf + 1 ≤ (wq.alloc (.cells #[.string gk, .int .u32 (gva : Int), .int .u64 (gse : Int), .int .u64 (gli : Int), .int .u8 (gki : Int), .string gv] 44)).heap.size := by simp; omega
              have hB8 := hBq.alloc (by omega) (.cells #[.string gk, .int .u32 (gva : Int), .int .u64 (gse : Int), .int .u64 (gli : Int), .int .u8 (gki : Int), .string gv] 44)
              have one8 : Hid (∀ u ∈ ftC [(⟨gk, gva, gse, gli, gki, gv⟩ : Ft)], u.oneCell' = true) := Lib.hid (ftC_one _)
              replace how8 := Lib.hid how8
              replace hk8 := Lib.hid hk8
              replace rd8 := Lib.hid rd8
              replace sz8 := Lib.hid sz8
              replace hB8 := Lib.hid hB8
              clear hkq howq hBq szq cf7 kf7 hfs7 kq hk7
              go_wp2_with (first | (at_builtin; refine wpList_app _ rfl (.tmp 87) (.tmp 89) rfl Try.underlying26 ftInfo rfl (by omega) how8.out rfl _ 1 1 rd8.out rfl one8.out (by unfold maxLen; omega) (by omega) sz8.out ?_; intro v2 w9 hown2 hgrow2 hlies2) | fail)
              have hm9 : Hid ((dd (raw ++ [⟨gk, gva, gse, gli, gki, gv⟩])).length = r + 1 + 1) := Lib.hid (by rw [hddn.out, List.length_append, hm.out]; rfl)
              have ho9 : w9.ownsRow (Bf + 1) 44 6 v2 (r + 1 + 1) (ftC (dd (raw ++ [⟨gk, gva, gse, gli, gki, gv⟩]))) := by rw [hddn.out, ftC_append]; exact hown2
              have kg2 : KeepBut (fun x => some x = (Value.slice (some ⟨b6, o6, none⟩) (r + 1) c6).ownBlock) _ w9 := KeepBut.of_grown hgrow2 (fun x e => e.symm)
              have hk9 := kg2.blk hk8.out (fun e => by have := (how8.out.lt Bf e.symm).1; omega)
              have hB9 := below_app hB8.out how8.out (by omega) (by have := sz8.out; omega) hgrow2
              have sz9 := Nat.le_trans sz8.out hgrow2.size
              replace ho9 := Lib.hid ho9
              go_roundw
              case rel => exact ⟨ps.set j (q + 1), raw ++ [⟨gk, gva, gse, gli, gki, gv⟩], r + 1 + 1, hpl2, hpre2, hk9, hm9, hsum2, by omega, ho9.out, hB9, sz9⟩
              case measure => rw [atSum_eq hk0.out]; exact hmes.out _ hk9
end Go.Proofs.Ytnlmchbigpjamaa
