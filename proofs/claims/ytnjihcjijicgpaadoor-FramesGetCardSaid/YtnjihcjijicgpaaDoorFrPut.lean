/- Walk of frames.Put. -/
import Derived.Test.YtnjihcjijicgpaaDoorFrA
import Derived.Test.YtnjihcjijicgpaaDoorStr
import Derived.Deep.WholeRow
import Derived.Lib.AppendZerosOnto
import Derived.Deep.RegionLaw
set_option linter.unusedSimpArgs false
set_option linter.unusedVariables false
namespace Herb
open Go Go.RowKit
theorem own_cap {w : World} {base : Nat} {e : TypeId} {size n c : Nat} {A : Option Addr} {xs : List Value} (h : w.ownsRow base e size (.slice A n c) n xs) : n ≤ c ∧ c ≤ maxLen := by
  rcases h.2 with ⟨h', h0⟩ | ⟨g, cap, cur, h', _, _, hnc, hcm, _⟩
  · injection h' with _ h1 h2
    omega
  · injection h' with _ h1 h2
    subst h2
    exact ⟨hnc, hcm⟩
theorem bs_of {W : World} {A : Option Addr} {n : Nat} {l : List UInt8} (h : Rd W 1 A n (bvs l)) (hn : l.length = n) : Bs W A l := by
  subst hn
  exact h
theorem Bs.head {W : World} {A : Option Addr} {l : List UInt8} (h : Bs W A l) (k : Nat) : Bs W A (l.take k) := h.take k
theorem zeroCells_one (z : Value) (n : Nat) : Builtin.zeroCells #[z] n = (List.replicate n z).toArray := by
  unfold Builtin.zeroCells
  apply Array.ext
  · simp
  · intro i h1 h2
    simp [Nat.mod_one]
theorem own_below {w w' : World} {base n size : Nat} {e : TypeId} {v : Value} {xs : List Value} (h : w.ownsRow base e size v n xs) (hb : Below w.heap.size w w') : w'.ownsRow base e size v n xs :=
  h.kept (row := none) ⟨hb.os, hb.tape, hb.output, hb.size, fun k hk _ => hb.block k hk⟩ (by cases v.ownBlock <;> simp)
theorem own_base {w : World} {base base' : Nat} {e : TypeId} {size n : Nat} {v : Value} {xs : List Value} (h : w.ownsRow base e size v n xs) (hb : base' ≤ base) : w.ownsRow base' e size v n xs :=
  ⟨h.1, h.2.imp id fun ⟨g, cap, cur, e1, e2, rest⟩ => ⟨g, cap, cur, e1, by omega, rest⟩⟩
theorem own_drew {w : World} {base n size : Nat} {e : TypeId} {v : Value} {xs : List Value} (h : w.ownsRow base e size v n xs) : w.drew.ownsRow base e size v n xs := h
theorem bvs_zeros (n : Nat) : bvs (Fr.zeros n) = List.replicate n (Value.int .u8 0) := by
  unfold bvs Fr.zeros
  rw [List.map_replicate]
  rfl
/-- append(nil, make([]byte, n)...). -/
theorem wpList_appz {P : Program} {w : World} {ops : Array Oper} {rest : List Oper} {o : Oper} {a : Act} {Q : Exit → Act → World → Prop} (hgd : o.guard = none) (s x : Operand) {t tn : TypeId}
    (ho : o.op = .call { callee := .builtin .append, args := #[s, x], argTypes := #[t, tn] })
    {base : Nat} {e : TypeId} {z : Value} {bytes : Nat} (ht : P.underlying t = some (.slice e)) (htn : P.underlying tn = some (.int .i64))
    (hinfo : (P.info? e).map (fun i => (i.zero, i.size, i.bytes)) = some (some z, 1, bytes)) (hz1 : z.cells = #[z]) (n : Nat) (h0 : 0 < n) (hn : n ≤ 1000) (hby : bytes ≤ 1000)
    (hs : a.eval s = .slice none 0 0) (hx : a.eval x = .int .i64 (n : Int)) (hbase : base ≤ w.heap.size)
    (h : ∀ v' w', w'.ownsRow base e 1 v' n (List.replicate n z) → Below w.heap.size w w' → wpList P ops Q rest (a.put o.dst v') w') : wpList P ops Q (o :: rest) a w := by
  obtain ⟨i, hi, hz, hs1, hb⟩ := info_parts hinfo
  have hmul : n * i.bytes ≤ 1000 * 1000 := Nat.mul_le_mul hn (by omega)
  have hr := Lib.run_append_nil_zeros (P := P) w t tn o.type e i z .i64 .i64 ht htn hi hz n h0 (by omega) (by omega) (by omega)
  refine Lib.wpList_append_run w hgd s x t tn ho _ _ hs hx _ _ hr ?_
  rw [hz1, zeroCells_one, zeroCells_one]
  refine h _ _ ⟨by simp, .inr ⟨w.heap.size, _, _, rfl, hbase, heap_alloc_new w.drew _, grownCap_ge w n 0 e, grownCap_le_maxLen w n 0 e (by unfold maxLen; omega), ?_, ?_⟩⟩ ((Below.refl w.heap.size w).drew.alloc (Nat.le_refl _) _)
  · have := grownCap_ge w n 0 e
    simp
    omega
  · simp
end Herb
namespace Go.Proofs.YtnjihcjijicgpaaDoor
open Go Go.RowKit Herb

theorem infoF8 : (Tryd.prog.info? 5).map (fun i => (i.zero, i.size, i.bytes)) = some (some (.int .u8 0), 1, 1) := by kernel_rfl
theorem left_at (x : Int) (p L : Nat) (hx : x = (p : Int)) (hL : 256 - p % 256 = L) (hp : p ≤ 4611686018427387904) (w : World) : Calls Tryd.prog 17 #[.int .i64 x] w fun e w' => e = .returned (.int .i64 (L : Int)) ∧ w = w' := by
  subst hx
  have h := left_any (p : Int) (by omega) (by omega) w
  rw [show (256 : Int) - (p : Int) % 256 = (L : Int) by omega] at h
  exact h
theorem clip_at (w : World) (A : Option Addr) (n c : Nat) (hnc : n ≤ c) (hc : c ≤ maxLen) :
    Calls Tryd.prog 19 #[.slice A n c] w fun e w' => e = .returned (.slice A n n) ∧ w = w' := by
  unfold maxLen at hc
  go_enter Tryd.func19, Tryd.ntmps19
  go_wp2
  go_ret
  exact ⟨rfl, rfl⟩

theorem put_neg (w : World) (x : Int) (h : x < 0) (A : Option Addr) (n c : Nat) : Calls Tryd.prog 7 #[.int .i64 x, .slice A n c] w fun e w' => e = .returned (.tuple #[.slice none 0 0, .int .i64 1]) ∧ w = w' := by
  have d : decide (x < 0) = true := decide_eq_true h
  go_enter Tryd.func7, Tryd.ntmps7
  go_wp2
  go_ret2
  exact ⟨rfl, rfl⟩
theorem put_great (w : World) (x : Int) (h : 0 ≤ x) (A : Option Addr) (n c : Nat) (hn : 65536 < n) : Calls Tryd.prog 7 #[.int .i64 x, .slice A n c] w fun e w' => e = .returned (.tuple #[.slice none 0 0, .int .i64 3]) ∧ w = w' := by
  have d : decide (x < 0) = false := decide_eq_false (by omega)
  have d2 : decide ((65536 : Int) < (n : Int)) = true := decide_eq_true (by omega)
  go_enter Tryd.func7, Tryd.ntmps7
  go_wp2
  go_ret2
  exact ⟨rfl, rfl⟩

/-- What falls from round to round. -/
def frMs (v1 v6 : Value) : Nat := 2 * (match v1 with | .slice _ l _ => l | _ => 0) + (match v6 with | .slice none _ _ => 1 | _ => 0)
theorem frMs_le (v : Value) : 0 ≤ (match v with | .slice none _ _ => 1 | _ => 0) := Nat.zero_le _
theorem kinds_size : (Tryd.prog.info? 39).map (·.size) = some 2 := by kernel_rfl
theorem kinds_one : (#[.int .u8 3, .int .u8 4] : Array Value).all (·.oneCell') = true := by simp [Value.oneCell']
/-- The block of kinds. -/
def kndV (g : Bool) : Array Value := #[.int .u8 ((Fr.kindOf g false).toNat : Int), .int .u8 ((Fr.kindOf g true).toNat : Int)]

set_option maxRecDepth 100000 in
set_option maxHeartbeats 16000000 in
theorem put_any (w : World) (p : Nat) (hp : p ≤ 9223372036854775807) (A : Option Addr) (n c : Nat) (r : List UInt8) (hln : r.length = n) (hn : n ≤ 65536) (hnc : n ≤ c) (hb : Bs w A r) :
    Calls Tryd.prog 7 #[.int .i64 (p : Int), .slice A n c] w fun e w' => ∃ g k cap, e = .returned (.tuple #[.slice (some ⟨g, 0, none⟩) k k, .int .i64 0]) ∧ (Fr.put p r).length = k ∧ w'.ownsRow w.heap.size 5 1 (.slice (some ⟨g, 0, none⟩) k cap) k (bvs (Fr.put p r)) ∧ Below w.heap.size w w' := by
  have d : decide ((p : Int) < 0) = false := decide_eq_false (by omega)
  have d2 : decide ((65536 : Int) < (n : Int)) = false := decide_eq_false (by omega)
  obtain ⟨q, hq⟩ : ∃ q, p % 256 = q := ⟨_, rfl⟩
  have hqi : (p : Int) % 256 = (q : Int) := by omega
  have hq256 : q < 256 := by omega
  have htot := Fr.put_mod p r
  rw [hq] at htot
  have hTl := Fr.put_length_le p r
  rw [← htot] at hTl ⊢
  clear htot
  obtain ⟨T, hT⟩ : ∃ T, Fr.put q r = T := ⟨_, rfl⟩
  rw [hT] at hTl ⊢
  have hst : ∃ fu, Fr.Enough fu q r ∧ Fr.putF fu q false r = T := ⟨_, Fr.enough_put q r, hT⟩
  replace hln := Lib.hid hln
  clear hT hq
  replace hst := Lib.hid hst
  have hB0 := (Below.refl w.heap.size w).alloc (Nat.le_refl _) (Obj.cells (kndV false) 39)
  have hK0 := Blk.new w 39 (kndV false)
  replace hK0 := Lib.hid hK0
  go_enter Tryd.func7, Tryd.ntmps7
  go_wp2_with fail
  simp only [hqi]
  clear hqi
  go_loopw [1, 6] (fun v1 v6 wr => ∃ (fu m n' c' : Nat) (g : Bool) (A' : Option Addr) (r' out : List UInt8), v1 = .slice A' n' c' ∧ r'.length = n' ∧ n' ≤ n ∧ n' ≤ c' ∧ Bs w A' r' ∧ wr.ownsRow (w.heap.size + 1) 5 1 v6 m (bvs out) ∧ Blk wr w.heap.size 39 (kndV g)
      ∧ Fr.Enough fu (q + m) r' ∧ out ++ Fr.putF fu (q + m) g r' = T ∧ out.length = m ∧ ((v6 = .slice none 0 0 ∧ m = 0) ∨ (q + m) % 256 = 0) ∧ Below w.heap.size w wr)
    (fun v1 v6 _ => frMs v1 v6)
  case atStart =>
    obtain ⟨fu, hf1, hf2⟩ := hst.out
    exact ⟨fu, 0, n, c, false, A, r, [], rfl, hln.out, by omega, hnc, hb, World.ownsRow_nil _ _ _ _, hK0.out, hf1, hf2, rfl, .inl ⟨rfl, rfl⟩, hB0⟩
  case round =>
    clear hK0 hst hB0 hb
    obtain ⟨fu, m, n', c', g, A', r', out, rfl, hr', hn', hnc', hbr, hown, hK, hen, htot, hm, hpos, hB⟩ := hrel
    have hml : m ≤ 20 * n + 26 := by
      have := congrArg List.length htot
      rw [List.length_append, hm] at this
      have := hln.out
      omega
    have hgeo := Fr.geo (q + m)
    have hgl := Fr.gap_le (q + m)
    replace htot := Lib.hid htot
    replace hr' := Lib.hid hr'
    replace hen := Lib.hid hen
    replace hm := Lib.hid hm
    by_cases hgap : Fr.gap (q + m) = 0
    · have hL : 7 ≤ 256 - (q + m) % 256 := by
        unfold Fr.gap at hgap
        split at hgap <;> omega
      rw [hgap, Nat.add_zero] at hgeo
      obtain ⟨L, hLe⟩ : ∃ L, 256 - (q + m) % 256 = L := ⟨_, rfl⟩
      rw [hLe] at hL
      obtain ⟨rm, hrm⟩ : ∃ rm, Fr.room (q + m) = rm := ⟨_, rfl⟩
      rw [hrm] at hgeo
      have hL256 : L ≤ 256 := by omega
      have hrmL : (L : Int) - 7 = (rm : Int) := by omega
      have hrm249 : rm ≤ 249 := by omega
      have cl := fun W => left_at ((q : Int) + (m : Int)) (q + m) L (by omega) hLe (by omega) W
      have d3 : decide ((L : Int) < 7) = false := decide_eq_false (by omega)
      have hnext : (q + (m + 7 + rm)) % 256 = 0 := by have := hgeo.2.2; omega
      have hz0 : rm = 0 → (q + m) % 256 ≠ 0 := by omega
      have hzn : out ++ Fr.zeros (Fr.gap (q + m)) = out := by rw [hgap]; exact List.append_nil out
      have hown' := hown
      rw [← hzn] at hown'
      have hm1 : (out ++ Fr.zeros (Fr.gap (q + m))).length = m := by rw [hzn]; exact hm.out
      replace hz0 := Lib.hid hz0
      have hpx : q + m + Fr.gap (q + m) + 7 + rm = q + (m + 7 + rm) := by rw [hgap]; omega
      have hml2 : m ≤ 20 * n + 50 := by omega
      replace hpx := Lib.hid hpx
      replace hm1 := Lib.hid hm1
      replace hLe := Lib.hid hLe
      replace hgap := Lib.hid hgap
      replace hpos := Lib.hid hpos
      replace hrm := Lib.hid hrm
      replace hnext := Lib.hid hnext
      clear hgeo hgl hzn hown
      have hown := hown'
      clear hown'
      obtain ⟨A6, c6, rfl⟩ := own_slice hown
      have hKlt := hK.lt
      by_cases hfin : n' ≤ rm
      · have d4 : decide ((rm : Int) < (n' : Int)) = false := decide_eq_false (by omega)
        have hXl : r'.length = n' := hr'.out
        obtain ⟨k1, hk1⟩ : ∃ k, Fr.kindOf g true = k := ⟨_, rfl⟩
        obtain ⟨k0, hk0⟩ : ∃ k, Fr.kindOf g false = k := ⟨_, rfl⟩
        have hbX : Bs w A' r' := hbr
        have rdN : Rd w 1 A' n' (bvs r') := by have h : Rd w 1 A' _ (bvs r') := hbX; rw [hXl] at h; exact h
        have one2 := bvs_one r'
        have one1 := bvs_one (Fr.head k1 r')
        replace one1 := Lib.hid one1
        replace one2 := Lib.hid one2
        replace hXl := Lib.hid hXl
        have c0 : wr.cell? ⟨w.heap.size, 0, none⟩ = some (.int .u8 (k0.toNat : Int)) := by rw [← hk0]; exact hK.cell 0
        have c1 : wr.cell? ⟨w.heap.size, 1, none⟩ = some (.int .u8 (k1.toNat : Int)) := by rw [← hk1]; exact hK.cell 1
        have bg : Below (w.heap.size + 1) wr wr := Below.refl _ _
        have hd := headOf_any k1 A' n' c' r' hXl.out (by omega) wr (hbX.below hB)
        replace hd := Lib.hid hd
        replace hk1 := Lib.hid hk1
        replace hk0 := Lib.hid hk0
        go_wp2_with fail
        refine (cl _).mono ?_
        rintro _ _ ⟨rfl, rfl⟩
        go_wp2_with fail
        refine (cl _).mono ?_
        rintro _ _ ⟨rfl, rfl⟩
        go_wp2_with fail
        refine hd.out.mono ?_
        rintro _ w1 ⟨rfl, b1⟩
        obtain ⟨H, hH⟩ : ∃ H, hcs (Fr.sumT (Fr.tail3 k1 n') r') n' k1 4 = H := ⟨_, rfl⟩
        have hHs : H.size = 7 := by rw [← hH]; rfl
        have hH1 : H.all (·.oneCell') = true := by rw [← hH]; exact hcs_one _ _ _ _
        have hHb : H = (bvs (Fr.head k1 r')).toArray := by
          rw [← hH]
          have h := hcs_end k1 r'
          rw [hXl.out] at h
          exact h
        have hst := run_storeCells_new (P := Tryd.prog) w1 42 #[.int .u8 0, .int .u8 0, .int .u8 0, .int .u8 0, .int .u8 0, .int .u8 0, .int .u8 0] H (by rw [hHs]; exact head_size) (by rw [hHs]; rfl) hH1
        rw [hH]
        have hsz0 : w.heap.size + 1 ≤ wr.heap.size := Nat.le_trans (Nat.succ_le_of_lt hKlt) bg.size
        have hown1 := (own_below hown b1).alloc (.cells H 42)
        have b3 : Below (w.heap.size + 1) wr (w1.alloc (.cells H 42)) := (bg.trans (b1.mono hsz0)).alloc (Nat.le_trans hsz0 b1.size) _
        have rdH : Rd (w1.alloc (.cells H 42)) 1 (some ⟨w1.heap.size, 0, none⟩) 7 (bvs (Fr.head k1 r')) := (Blk.new w1 42 H).rd (by rw [bvs_length, Fr.head_length]) (fun j u hu => by rw [hHb, Nat.zero_add]; simpa using hu)
        replace hHs := Lib.hid hHs
        clear hH hd hHb hH1 hown b1 cl c0 c1
        go_wp2_with fail
        have hsz3 := b3.size
        clear hst
        generalize w1.alloc (.cells H 42) = w3 at *
        go_region_law (first
          | (refine step_app _ (by rfl) (.tmp 54) (.tmp 55) (by rfl) Tryd.underlying22 infoF8 (by rfl) (by omega) (own_drew hown1) (by rfl) _ 7 7 rdH.drew (by rfl) one1.out (by unfold maxLen; omega) (by omega) (Nat.le_trans (Nat.succ_le_of_lt hKlt) hsz3) ?_; intro v4 w4 hown4 hgrow4 _; have b4 : Below (w.heap.size + 1) wr w4 := below_app b3.drew (own_drew hown1) (Nat.le_refl _) (Nat.le_trans (Nat.succ_le_of_lt hKlt) hsz3) hgrow4; obtain ⟨g4, cp4, rfl, hg4, hg4'⟩ := hown4.form (by omega))
          | (refine step_app _ (by rfl) (.tmp 56) (.tmp 59) (by rfl) Tryd.underlying22 infoF8 (by rfl) (by omega) hown4 (by rfl) A' n' c' (rdN.below (hB.trans (b4.mono (Nat.le_succ _)))) (by rfl) one2.out (by unfold maxLen; omega) (by omega) (Nat.le_trans (Nat.succ_le_of_lt hKlt) b4.size) ?_; intro v5 w5 hown5 hgrow5 _; have b5 : Below (w.heap.size + 1) wr w5 := below_app b4 hown4 (Nat.le_refl _) (Nat.le_trans (Nat.succ_le_of_lt hKlt) b4.size) hgrow5; obtain ⟨g5, cp5, rfl, hg5, hg5'⟩ := hown5.form (by omega)))
        have hx5 : w5.ownsRow (w.heap.size + 1) 5 1 (.slice (some ⟨g5, 0, none⟩) (m + 7 + n') cp5) (m + 7 + n') (bvs (out ++ Fr.zeros (Fr.gap (q + m)) ++ Fr.part k1 r')) := by
          unfold Fr.part
          rw [← List.append_assoc, bvs_append, bvs_append _ (Fr.head _ _)]
          exact hown5
        clear hown5 hown4 hgrow5 hgrow4 b4 hown1 rdH b3 hsz3 hHs
        have hcp := own_cap hx5
        go_wp2_with fail
        refine (clip_at _ _ _ _ hcp.1 hcp.2).mono ?_
        rintro _ _ ⟨rfl, rfl⟩
        clear hcp
        go_wp2
        have hTe : out ++ Fr.zeros (Fr.gap (q + m)) ++ Fr.part k1 r' = T := by
          rw [← htot.out]
          cases fu with
          | zero => have := hen.out; unfold Fr.Enough at this; split at this <;> omega
          | succ fu => rw [Fr.putF_le _ _ _ _ (by rw [hrm.out, hr'.out]; exact hfin), hk1.out, List.append_assoc]
        rw [hTe] at hx5
        go_ret2
        refine ⟨g5, m + 7 + n', cp5, rfl, ?_, own_base hx5 (Nat.le_succ _), hB.trans (b5.mono (Nat.le_succ _))⟩
        rw [← hTe, List.length_append, hm1.out, Fr.part_length, hXl.out]
        try omega
      · have d4 : decide ((rm : Int) < (n' : Int)) = true := decide_eq_true (by omega)
        have d5 : ((rm : Int) == (n' : Int)) = false := by simp; omega
        have hrc : rm ≤ c' := by omega
        have hrcI : (rm : Int) ≤ (c' : Int) := by omega
        have hXl : (r'.take rm).length = rm := by rw [List.length_take]; have := hr'.out; omega
        obtain ⟨k1, hk1⟩ : ∃ k, Fr.kindOf g true = k := ⟨_, rfl⟩
        obtain ⟨k0, hk0⟩ : ∃ k, Fr.kindOf g false = k := ⟨_, rfl⟩
        have hbX : Bs w A' (r'.take rm) := hbr.take rm
        have rdN : Rd w 1 A' rm (bvs (r'.take rm)) := by have h : Rd w 1 A' _ (bvs (r'.take rm)) := hbX; rw [hXl] at h; exact h
        have one2 := bvs_one (r'.take rm)
        have one1 := bvs_one (Fr.head k0 (r'.take rm))
        replace one1 := Lib.hid one1
        replace one2 := Lib.hid one2
        replace hXl := Lib.hid hXl
        have c0 : wr.cell? ⟨w.heap.size, 0, none⟩ = some (.int .u8 (k0.toNat : Int)) := by rw [← hk0]; exact hK.cell 0
        have c1 : wr.cell? ⟨w.heap.size, 1, none⟩ = some (.int .u8 (k1.toNat : Int)) := by rw [← hk1]; exact hK.cell 1
        have bg : Below (w.heap.size + 1) wr wr := Below.refl _ _
        have hd := headOf_any k0 A' rm c' (r'.take rm) hXl.out (by omega) wr (hbX.below hB)
        replace hd := Lib.hid hd
        replace hk1 := Lib.hid hk1
        replace hk0 := Lib.hid hk0
        go_wp2_with fail
        refine (cl _).mono ?_
        rintro _ _ ⟨rfl, rfl⟩
        go_wp2_with fail
        refine (cl _).mono ?_
        rintro _ _ ⟨rfl, rfl⟩
        go_wp2_with fail
        refine hd.out.mono ?_
        rintro _ w1 ⟨rfl, b1⟩
        obtain ⟨H, hH⟩ : ∃ H, hcs (Fr.sumT (Fr.tail3 k0 rm) (r'.take rm)) rm k0 4 = H := ⟨_, rfl⟩
        have hHs : H.size = 7 := by rw [← hH]; rfl
        have hH1 : H.all (·.oneCell') = true := by rw [← hH]; exact hcs_one _ _ _ _
        have hHb : H = (bvs (Fr.head k0 (r'.take rm))).toArray := by
          rw [← hH]
          have h := hcs_end k0 (r'.take rm)
          rw [hXl.out] at h
          exact h
        have hst := run_storeCells_new (P := Tryd.prog) w1 42 #[.int .u8 0, .int .u8 0, .int .u8 0, .int .u8 0, .int .u8 0, .int .u8 0, .int .u8 0] H (by rw [hHs]; exact head_size) (by rw [hHs]; rfl) hH1
        rw [hH]
        have hsz0 : w.heap.size + 1 ≤ wr.heap.size := Nat.le_trans (Nat.succ_le_of_lt hKlt) bg.size
        have hown1 := (own_below hown b1).alloc (.cells H 42)
        have b3 : Below (w.heap.size + 1) wr (w1.alloc (.cells H 42)) := (bg.trans (b1.mono hsz0)).alloc (Nat.le_trans hsz0 b1.size) _
        have rdH : Rd (w1.alloc (.cells H 42)) 1 (some ⟨w1.heap.size, 0, none⟩) 7 (bvs (Fr.head k0 (r'.take rm))) := (Blk.new w1 42 H).rd (by rw [bvs_length, Fr.head_length]) (fun j u hu => by rw [hHb, Nat.zero_add]; simpa using hu)
        replace hHs := Lib.hid hHs
        clear hH hd hHb hH1 hown b1 cl c0 c1
        go_wp2_with fail
        have hsz3 := b3.size
        clear hst
        generalize w1.alloc (.cells H 42) = w3 at *
        go_region_law (first
          | (refine step_app _ (by rfl) (.tmp 54) (.tmp 55) (by rfl) Tryd.underlying22 infoF8 (by rfl) (by omega) (own_drew hown1) (by rfl) _ 7 7 rdH.drew (by rfl) one1.out (by unfold maxLen; omega) (by omega) (Nat.le_trans (Nat.succ_le_of_lt hKlt) hsz3) ?_; intro v4 w4 hown4 hgrow4 _; have b4 : Below (w.heap.size + 1) wr w4 := below_app b3.drew (own_drew hown1) (Nat.le_refl _) (Nat.le_trans (Nat.succ_le_of_lt hKlt) hsz3) hgrow4; obtain ⟨g4, cp4, rfl, hg4, hg4'⟩ := hown4.form (by omega))
          | (refine step_app _ (by rfl) (.tmp 56) (.tmp 59) (by rfl) Tryd.underlying22 infoF8 (by rfl) (by omega) hown4 (by rfl) A' rm c' (rdN.below (hB.trans (b4.mono (Nat.le_succ _)))) (by rfl) one2.out (by unfold maxLen; omega) (by omega) (Nat.le_trans (Nat.succ_le_of_lt hKlt) b4.size) ?_; intro v5 w5 hown5 hgrow5 _; have b5 : Below (w.heap.size + 1) wr w5 := below_app b4 hown4 (Nat.le_refl _) (Nat.le_trans (Nat.succ_le_of_lt hKlt) b4.size) hgrow5; obtain ⟨g5, cp5, rfl, hg5, hg5'⟩ := hown5.form (by omega)))
        have hx5 : w5.ownsRow (w.heap.size + 1) 5 1 (.slice (some ⟨g5, 0, none⟩) (m + 7 + rm) cp5) (m + 7 + rm) (bvs (out ++ Fr.zeros (Fr.gap (q + m)) ++ Fr.part k0 (r'.take rm))) := by
          unfold Fr.part
          rw [← List.append_assoc, bvs_append, bvs_append _ (Fr.head _ _)]
          exact hown5
        clear hown5 hown4 hgrow5 hgrow4 b4 hown1 rdH b3 hsz3 hHs
        have hK5 := hK.below b5 (Nat.lt_succ_self _)
        obtain ⟨bA, oA, rfl, hbA, _⟩ := hbr.at_ (k := rm) (by rw [hr'.out]; omega)
        have hbn : Bs w (some ⟨bA, oA + rm, none⟩) (r'.drop rm) := by
          have h := hbr.cut (k := rm) (m := n' - rm) (by rw [hr'.out]; omega)
          rwa [List.take_of_length_le (by rw [List.length_drop, hr'.out]; omega)] at h
        go_wp2_with (first | (refine wpList_store_blk rfl 39 (.tmp 7) (.tmp 70) rfl w.heap.size rfl hK5 #[.int .u8 3, .int .u8 4] rfl kinds_size rfl kinds_one ?_) | fail)
        have hK6 : Blk (w5.setRow w.heap.size #[.int .u8 3, .int .u8 4]) w.heap.size 39 (kndV true) := hK5.setRow _
        have hx6 := hx5.kept (grown_setRow w5 w.heap.size #[.int .u8 3, .int .u8 4]) (.inr (by simp [Value.ownBlock]; have := (hx5.lt g5 rfl).1; omega))
        have hB6 := below_setRow' (hB.trans (b5.mono (Nat.le_succ _))) (Nat.le_refl _) #[.int .u8 3, .int .u8 4]
        have hfu : ∃ fu', fu = fu' + 1 := by
          cases fu with
          | zero => have := hen.out; unfold Fr.Enough at this; split at this <;> omega
          | succ fu => exact ⟨fu, rfl⟩
        obtain ⟨fu', rfl⟩ := hfu
        have hgt : Fr.room (q + m) < r'.length := by rw [hrm.out, hr'.out]; omega
        have hTe := htot.out
        rw [Fr.putF_gt _ _ _ _ hgt, hk0.out] at hTe
        have hen' := Fr.enough_next hen.out hgt
        have hrmq : Fr.room (q + m) = rm := by rw [hrm.out]
        rw [hrmq, hpx.out] at hTe hen'
        have hTe2 : out ++ Fr.zeros (Fr.gap (q + m)) ++ Fr.part k0 (r'.take rm) ++ Fr.putF fu' (q + (m + 7 + rm)) true (r'.drop rm) = T := by
          rw [← hTe]
          simp only [List.append_assoc]
        have hlo : (out ++ Fr.zeros (Fr.gap (q + m)) ++ Fr.part k0 (r'.take rm)).length = m + 7 + rm := by rw [List.length_append, hm1.out, Fr.part_length, hXl.out]; try omega
        try simp only [Act.put, List.setIfInBounds_toArray, List.set_cons_succ, List.set_cons_zero]
        go_roundw
        case rel => exact ⟨fu', m + 7 + rm, n' - rm, c' - rm, true, _, r'.drop rm, _, rfl, by rw [List.length_drop, hr'.out], by omega, by omega, hbn, hx6, hK6, hen', hTe2, hlo, .inr hnext.out, hB6⟩
        case measure =>
          show frMs _ _ < frMs _ _
          rcases Nat.eq_zero_or_pos rm with h0 | h0
          · rcases hpos.out with ⟨h1, _⟩ | h1
            · rw [h1, h0]; simp only [frMs]; omega
            · exact absurd h1 (hz0.out h0)
          · have h1 := frMs_le (Value.slice A6 m c6)
            simp only [frMs] at h1 ⊢
            omega
    · have hgm : Fr.gap (q + m) = 256 - (q + m) % 256 ∧ (q + m) % 256 ≠ 0 := by
        unfold Fr.gap at hgap ⊢
        split at hgap
        · rename_i h7
          rw [if_pos h7]
          exact ⟨rfl, by omega⟩
        · omega
      rcases hpos with ⟨rfl, rfl⟩ | hpos
      rotate_left
      · exact absurd hpos hgm.2
      rw [Nat.add_zero] at *
      obtain ⟨G, hG⟩ : ∃ G, Fr.gap q = G := ⟨_, rfl⟩
      have hout0 : out = [] := List.eq_nil_of_length_eq_zero hm.out
      rw [hG] at hgeo hgl hgap hgm
      obtain ⟨rm, hrm⟩ : ∃ rm, Fr.room q = rm := ⟨_, rfl⟩
      rw [hrm] at hgeo
      have hrm249 : rm = 249 := by omega
      have cl0 := fun W => left_at (q : Int) q G rfl hgm.1.symm (by omega) W
      have cl := fun W => left_at ((q : Int) + (G : Int)) (q + G) 256 (by omega) (by omega) (by omega) W
      have d3 : decide ((G : Int) < 7) = true := decide_eq_true (by omega)
      subst hrm249
      have hnext : (q + (G + 7 + 249)) % 256 = 0 := by have := hgeo.2.2; omega
      have hG0 : 0 < G := by omega
      have hm1 : (out ++ Fr.zeros G).length = G := by rw [hout0, List.nil_append, Fr.zeros_length]
      have hpx : q + Fr.gap q + 7 + 249 = q + (G + 7 + 249) := by rw [hG]; omega
      have hml2 : G ≤ 20 * n + 50 := by omega
      have hG6 : G ≤ 6 := hgl
      replace hpx := Lib.hid hpx
      replace hm1 := Lib.hid hm1
      replace hG := Lib.hid hG
      replace hrm := Lib.hid hrm
      replace hnext := Lib.hid hnext
      replace hout0 := Lib.hid hout0
      clear hgm hgeo hgl hgap
      have hKlt := hK.lt
      by_cases hfin : n' ≤ 249
      · have d4 : decide ((249 : Int) < (n' : Int)) = false := decide_eq_false (by omega)
        have hXl : r'.length = n' := hr'.out
        obtain ⟨k1, hk1⟩ : ∃ k, Fr.kindOf g true = k := ⟨_, rfl⟩
        obtain ⟨k0, hk0⟩ : ∃ k, Fr.kindOf g false = k := ⟨_, rfl⟩
        have hbX : Bs w A' r' := hbr
        have rdN : Rd w 1 A' n' (bvs r') := by have h : Rd w 1 A' _ (bvs r') := hbX; rw [hXl] at h; exact h
        have one2 := bvs_one r'
        have one1 := bvs_one (Fr.head k1 r')
        replace one1 := Lib.hid one1
        replace one2 := Lib.hid one2
        replace hXl := Lib.hid hXl
        go_wp2_with fail
        refine (cl0 _).mono ?_
        rintro _ _ ⟨rfl, rfl⟩
        go_wp2_with (first | (at_builtin; refine wpList_appz rfl (.tmp 29) (.tmp 30) rfl Tryd.underlying22 Tryd.underlying3 infoF8 rfl G hG0 (by omega) (by omega) rfl rfl (Nat.succ_le_of_lt hKlt) ?_; intro vg wg howng bg; obtain ⟨A6, c6, rfl⟩ := own_slice howng) | fail)
        rw [← bvs_zeros] at howng
        have hown : wg.ownsRow (w.heap.size + 1) 5 1 (.slice A6 G c6) G (bvs (out ++ Fr.zeros G)) := by rw [hout0.out]; exact howng
        clear howng
        replace bg : Below (w.heap.size + 1) wr wg := bg.mono (Nat.succ_le_of_lt hKlt)
        have hKg := hK.below bg (Nat.lt_succ_self _)
        have c0 : wg.cell? ⟨w.heap.size, 0, none⟩ = some (.int .u8 (k0.toNat : Int)) := by rw [← hk0]; exact hKg.cell 0
        have c1 : wg.cell? ⟨w.heap.size, 1, none⟩ = some (.int .u8 (k1.toNat : Int)) := by rw [← hk1]; exact hKg.cell 1
        have hd := headOf_any k1 A' n' c' r' hXl.out (by omega) wg (hbX.below (hB.trans (bg.mono (Nat.le_succ _))))
        replace hd := Lib.hid hd
        replace hk1 := Lib.hid hk1
        replace hk0 := Lib.hid hk0
        clear hKg
        go_wp2_with fail
        refine (cl _).mono ?_
        rintro _ _ ⟨rfl, rfl⟩
        go_wp2_with fail
        refine hd.out.mono ?_
        rintro _ w1 ⟨rfl, b1⟩
        obtain ⟨H, hH⟩ : ∃ H, hcs (Fr.sumT (Fr.tail3 k1 n') r') n' k1 4 = H := ⟨_, rfl⟩
        have hHs : H.size = 7 := by rw [← hH]; rfl
        have hH1 : H.all (·.oneCell') = true := by rw [← hH]; exact hcs_one _ _ _ _
        have hHb : H = (bvs (Fr.head k1 r')).toArray := by
          rw [← hH]
          have h := hcs_end k1 r'
          rw [hXl.out] at h
          exact h
        have hst := run_storeCells_new (P := Tryd.prog) w1 42 #[.int .u8 0, .int .u8 0, .int .u8 0, .int .u8 0, .int .u8 0, .int .u8 0, .int .u8 0] H (by rw [hHs]; exact head_size) (by rw [hHs]; rfl) hH1
        rw [hH]
        have hsz0 : w.heap.size + 1 ≤ wg.heap.size := Nat.le_trans (Nat.succ_le_of_lt hKlt) bg.size
        have hown1 := (own_below hown b1).alloc (.cells H 42)
        have b3 : Below (w.heap.size + 1) wr (w1.alloc (.cells H 42)) := (bg.trans (b1.mono hsz0)).alloc (Nat.le_trans hsz0 b1.size) _
        have rdH : Rd (w1.alloc (.cells H 42)) 1 (some ⟨w1.heap.size, 0, none⟩) 7 (bvs (Fr.head k1 r')) := (Blk.new w1 42 H).rd (by rw [bvs_length, Fr.head_length]) (fun j u hu => by rw [hHb, Nat.zero_add]; simpa using hu)
        replace hHs := Lib.hid hHs
        clear hH hd hHb hH1 hown b1 cl c0 c1 cl0
        go_wp2_with fail
        have hsz3 := b3.size
        clear hst
        generalize w1.alloc (.cells H 42) = w3 at *
        go_region_law (first
          | (refine step_app _ (by rfl) (.tmp 54) (.tmp 55) (by rfl) Tryd.underlying22 infoF8 (by rfl) (by omega) (own_drew hown1) (by rfl) _ 7 7 rdH.drew (by rfl) one1.out (by unfold maxLen; omega) (by omega) (Nat.le_trans (Nat.succ_le_of_lt hKlt) hsz3) ?_; intro v4 w4 hown4 hgrow4 _; have b4 : Below (w.heap.size + 1) wr w4 := below_app b3.drew (own_drew hown1) (Nat.le_refl _) (Nat.le_trans (Nat.succ_le_of_lt hKlt) hsz3) hgrow4; obtain ⟨g4, cp4, rfl, hg4, hg4'⟩ := hown4.form (by omega))
          | (refine step_app _ (by rfl) (.tmp 56) (.tmp 59) (by rfl) Tryd.underlying22 infoF8 (by rfl) (by omega) hown4 (by rfl) A' n' c' (rdN.below (hB.trans (b4.mono (Nat.le_succ _)))) (by rfl) one2.out (by unfold maxLen; omega) (by omega) (Nat.le_trans (Nat.succ_le_of_lt hKlt) b4.size) ?_; intro v5 w5 hown5 hgrow5 _; have b5 : Below (w.heap.size + 1) wr w5 := below_app b4 hown4 (Nat.le_refl _) (Nat.le_trans (Nat.succ_le_of_lt hKlt) b4.size) hgrow5; obtain ⟨g5, cp5, rfl, hg5, hg5'⟩ := hown5.form (by omega)))
        have hx5 : w5.ownsRow (w.heap.size + 1) 5 1 (.slice (some ⟨g5, 0, none⟩) (G + 7 + n') cp5) (G + 7 + n') (bvs (out ++ Fr.zeros G ++ Fr.part k1 r')) := by
          unfold Fr.part
          rw [← List.append_assoc, bvs_append, bvs_append _ (Fr.head _ _)]
          exact hown5
        clear hown5 hown4 hgrow5 hgrow4 b4 hown1 rdH b3 hsz3 hHs
        have hcp := own_cap hx5
        go_wp2_with fail
        refine (clip_at _ _ _ _ hcp.1 hcp.2).mono ?_
        rintro _ _ ⟨rfl, rfl⟩
        clear hcp
        go_wp2
        have hTe : out ++ Fr.zeros G ++ Fr.part k1 r' = T := by
          rw [← htot.out]
          cases fu with
          | zero => have := hen.out; unfold Fr.Enough at this; split at this <;> omega
          | succ fu => rw [Fr.putF_le _ _ _ _ (by rw [hrm.out, hr'.out]; exact hfin), hk1.out, List.append_assoc, hG.out]
        rw [hTe] at hx5
        go_ret2
        refine ⟨g5, G + 7 + n', cp5, rfl, ?_, own_base hx5 (Nat.le_succ _), hB.trans (b5.mono (Nat.le_succ _))⟩
        rw [← hTe, List.length_append, hm1.out, Fr.part_length, hXl.out]
        try omega
      · have d4 : decide ((249 : Int) < (n' : Int)) = true := decide_eq_true (by omega)
        have d5 : ((249 : Int) == (n' : Int)) = false := by simp; omega
        have hrc : 249 ≤ c' := by omega
        have hrcI : (249 : Int) ≤ (c' : Int) := by omega
        have hXl : (r'.take 249).length = 249 := by rw [List.length_take]; have := hr'.out; omega
        obtain ⟨k1, hk1⟩ : ∃ k, Fr.kindOf g true = k := ⟨_, rfl⟩
        obtain ⟨k0, hk0⟩ : ∃ k, Fr.kindOf g false = k := ⟨_, rfl⟩
        have hbX : Bs w A' (r'.take 249) := hbr.take 249
        have rdN : Rd w 1 A' 249 (bvs (r'.take 249)) := by have h : Rd w 1 A' _ (bvs (r'.take 249)) := hbX; rw [hXl] at h; exact h
        have one2 := bvs_one (r'.take 249)
        have one1 := bvs_one (Fr.head k0 (r'.take 249))
        replace one1 := Lib.hid one1
        replace one2 := Lib.hid one2
        replace hXl := Lib.hid hXl
        go_wp2_with fail
        refine (cl0 _).mono ?_
        rintro _ _ ⟨rfl, rfl⟩
        go_wp2_with (first | (at_builtin; refine wpList_appz rfl (.tmp 29) (.tmp 30) rfl Tryd.underlying22 Tryd.underlying3 infoF8 rfl G hG0 (by omega) (by omega) rfl rfl (Nat.succ_le_of_lt hKlt) ?_; intro vg wg howng bg; obtain ⟨A6, c6, rfl⟩ := own_slice howng) | fail)
        rw [← bvs_zeros] at howng
        have hown : wg.ownsRow (w.heap.size + 1) 5 1 (.slice A6 G c6) G (bvs (out ++ Fr.zeros G)) := by rw [hout0.out]; exact howng
        clear howng
        replace bg : Below (w.heap.size + 1) wr wg := bg.mono (Nat.succ_le_of_lt hKlt)
        have hKg := hK.below bg (Nat.lt_succ_self _)
        have c0 : wg.cell? ⟨w.heap.size, 0, none⟩ = some (.int .u8 (k0.toNat : Int)) := by rw [← hk0]; exact hKg.cell 0
        have c1 : wg.cell? ⟨w.heap.size, 1, none⟩ = some (.int .u8 (k1.toNat : Int)) := by rw [← hk1]; exact hKg.cell 1
        have hd := headOf_any k0 A' 249 c' (r'.take 249) hXl.out (by omega) wg (hbX.below (hB.trans (bg.mono (Nat.le_succ _))))
        replace hd := Lib.hid hd
        replace hk1 := Lib.hid hk1
        replace hk0 := Lib.hid hk0
        clear hKg
        go_wp2_with fail
        refine (cl _).mono ?_
        rintro _ _ ⟨rfl, rfl⟩
        go_wp2_with fail
        refine hd.out.mono ?_
        rintro _ w1 ⟨rfl, b1⟩
        obtain ⟨H, hH⟩ : ∃ H, hcs (Fr.sumT (Fr.tail3 k0 249) (r'.take 249)) 249 k0 4 = H := ⟨_, rfl⟩
        have hHs : H.size = 7 := by rw [← hH]; rfl
        have hH1 : H.all (·.oneCell') = true := by rw [← hH]; exact hcs_one _ _ _ _
        have hHb : H = (bvs (Fr.head k0 (r'.take 249))).toArray := by
          rw [← hH]
          have h := hcs_end k0 (r'.take 249)
          rw [hXl.out] at h
          exact h
        have hst := run_storeCells_new (P := Tryd.prog) w1 42 #[.int .u8 0, .int .u8 0, .int .u8 0, .int .u8 0, .int .u8 0, .int .u8 0, .int .u8 0] H (by rw [hHs]; exact head_size) (by rw [hHs]; rfl) hH1
        rw [hH]
        have hsz0 : w.heap.size + 1 ≤ wg.heap.size := Nat.le_trans (Nat.succ_le_of_lt hKlt) bg.size
        have hown1 := (own_below hown b1).alloc (.cells H 42)
        have b3 : Below (w.heap.size + 1) wr (w1.alloc (.cells H 42)) := (bg.trans (b1.mono hsz0)).alloc (Nat.le_trans hsz0 b1.size) _
        have rdH : Rd (w1.alloc (.cells H 42)) 1 (some ⟨w1.heap.size, 0, none⟩) 7 (bvs (Fr.head k0 (r'.take 249))) := (Blk.new w1 42 H).rd (by rw [bvs_length, Fr.head_length]) (fun j u hu => by rw [hHb, Nat.zero_add]; simpa using hu)
        replace hHs := Lib.hid hHs
        clear hH hd hHb hH1 hown b1 cl c0 c1 cl0
        go_wp2_with fail
        have hsz3 := b3.size
        clear hst
        generalize w1.alloc (.cells H 42) = w3 at *
        go_region_law (first
          | (refine step_app _ (by rfl) (.tmp 54) (.tmp 55) (by rfl) Tryd.underlying22 infoF8 (by rfl) (by omega) (own_drew hown1) (by rfl) _ 7 7 rdH.drew (by rfl) one1.out (by unfold maxLen; omega) (by omega) (Nat.le_trans (Nat.succ_le_of_lt hKlt) hsz3) ?_; intro v4 w4 hown4 hgrow4 _; have b4 : Below (w.heap.size + 1) wr w4 := below_app b3.drew (own_drew hown1) (Nat.le_refl _) (Nat.le_trans (Nat.succ_le_of_lt hKlt) hsz3) hgrow4; obtain ⟨g4, cp4, rfl, hg4, hg4'⟩ := hown4.form (by omega))
          | (refine step_app _ (by rfl) (.tmp 56) (.tmp 59) (by rfl) Tryd.underlying22 infoF8 (by rfl) (by omega) hown4 (by rfl) A' 249 c' (rdN.below (hB.trans (b4.mono (Nat.le_succ _)))) (by rfl) one2.out (by unfold maxLen; omega) (by omega) (Nat.le_trans (Nat.succ_le_of_lt hKlt) b4.size) ?_; intro v5 w5 hown5 hgrow5 _; have b5 : Below (w.heap.size + 1) wr w5 := below_app b4 hown4 (Nat.le_refl _) (Nat.le_trans (Nat.succ_le_of_lt hKlt) b4.size) hgrow5; obtain ⟨g5, cp5, rfl, hg5, hg5'⟩ := hown5.form (by omega)))
        have hx5 : w5.ownsRow (w.heap.size + 1) 5 1 (.slice (some ⟨g5, 0, none⟩) (G + 7 + 249) cp5) (G + 7 + 249) (bvs (out ++ Fr.zeros G ++ Fr.part k0 (r'.take 249))) := by
          unfold Fr.part
          rw [← List.append_assoc, bvs_append, bvs_append _ (Fr.head _ _)]
          exact hown5
        clear hown5 hown4 hgrow5 hgrow4 b4 hown1 rdH b3 hsz3 hHs
        have hK5 := hK.below b5 (Nat.lt_succ_self _)
        obtain ⟨bA, oA, rfl, hbA, _⟩ := hbr.at_ (k := 249) (by rw [hr'.out]; omega)
        have hbn : Bs w (some ⟨bA, oA + 249, none⟩) (r'.drop 249) := by
          have h := hbr.cut (k := 249) (m := n' - 249) (by rw [hr'.out]; omega)
          rwa [List.take_of_length_le (by rw [List.length_drop, hr'.out]; omega)] at h
        go_wp2_with (first | (refine wpList_store_blk rfl 39 (.tmp 7) (.tmp 70) rfl w.heap.size rfl hK5 #[.int .u8 3, .int .u8 4] rfl kinds_size rfl kinds_one ?_) | fail)
        have hK6 : Blk (w5.setRow w.heap.size #[.int .u8 3, .int .u8 4]) w.heap.size 39 (kndV true) := hK5.setRow _
        have hx6 := hx5.kept (grown_setRow w5 w.heap.size #[.int .u8 3, .int .u8 4]) (.inr (by simp [Value.ownBlock]; have := (hx5.lt g5 rfl).1; omega))
        have hB6 := below_setRow' (hB.trans (b5.mono (Nat.le_succ _))) (Nat.le_refl _) #[.int .u8 3, .int .u8 4]
        have hfu : ∃ fu', fu = fu' + 1 := by
          cases fu with
          | zero => have := hen.out; unfold Fr.Enough at this; split at this <;> omega
          | succ fu => exact ⟨fu, rfl⟩
        obtain ⟨fu', rfl⟩ := hfu
        have hgt : Fr.room q < r'.length := by rw [hrm.out, hr'.out]; omega
        have hTe := htot.out
        rw [Fr.putF_gt _ _ _ _ hgt, hk0.out] at hTe
        have hen' := Fr.enough_next hen.out hgt
        have hrmq : Fr.room q = 249 := by rw [hrm.out]
        rw [hrmq, hpx.out] at hTe hen'
        have hTe2 : out ++ Fr.zeros G ++ Fr.part k0 (r'.take 249) ++ Fr.putF fu' (q + (G + 7 + 249)) true (r'.drop 249) = T := by
          rw [← hTe]
          simp only [List.append_assoc, hG.out]
        have hlo : (out ++ Fr.zeros G ++ Fr.part k0 (r'.take 249)).length = G + 7 + 249 := by rw [List.length_append, hm1.out, Fr.part_length, hXl.out]; try omega
        try simp only [Act.put, List.setIfInBounds_toArray, List.set_cons_succ, List.set_cons_zero]
        go_roundw
        case rel => exact ⟨fu', G + 7 + 249, n' - 249, c' - 249, true, _, r'.drop 249, _, rfl, by rw [List.length_drop, hr'.out], by omega, by omega, hbn, hx6, hK6, hen', hTe2, hlo, .inr hnext.out, hB6⟩
        case measure =>
          show frMs _ _ < frMs _ _
          simp only [frMs]; have := hr'.out; omega
end Go.Proofs.YtnjihcjijicgpaaDoor
