/- From a key and a time on all facts are told that do not stand ahead: for every input, no condition. -/
import Derived.Test.YtdifdbkbpeanhaaMemPlain
import Derived.Deep.RegionHeld3
import Derived.Deep.RegionWith
set_option linter.unusedSimpArgs false
set_option linter.unusedVariables false
namespace Go.Proofs.Ytdifdbkbpeanhaa.lawMemsFrom
open Go Go.RowKit Herb Go.ChangeShapes Go.WideShapes Go.ChangeAt

set_option maxRecDepth 100000 in
set_option maxHeartbeats 3200000 in
theorem walk (w : World) (A : Option Addr) (c : Nat) (ls : List LaM) (hrd : Rd w 8 A ls.length (lmsC ls)) (hls : ∀ y ∈ ls, y.fit) (key : ByteArray) (hks : key.size ≤ 140737488355328) (va : Nat) (hva : va < 4294967296) :
    Calls Try.prog 3 #[.slice A ls.length c, .string key, .int .u32 (va : Int)] w fun e w' => e = .returned (.bool true) ∧ Below w.heap.size w w' := by
  obtain ⟨n, hn⟩ : ∃ n, ls.length = n := ⟨_, rfl⟩
  rw [hn] at hrd ⊢
  replace hn := Lib.hid hn
  replace hls := Lib.hid hls
  go_enter Try.func3, Try.ntmps3
  by_cases hbig : 60 < n
  · have d1 : decide ((60 : Int) < (n : Int)) = true := decide_eq_true (by omega)
    go_wp2_with fail
    refine (lives_any _).mono ?_
    rintro _ w1 ⟨rfl, b1⟩
    go_wp2
    go_ret
    exact ⟨rfl, b1⟩
  have d1 : decide ((60 : Int) < (n : Int)) = false := decide_eq_false (by omega)
  by_cases hbig2 : 1000 < key.size
  · have d2 : decide ((1000 : Int) < (key.size : Int)) = true := decide_eq_true (by omega)
    go_wp2_with fail
    refine (lives_any _).mono ?_
    rintro _ w1 ⟨rfl, b1⟩
    go_wp2
    go_ret
    exact ⟨rfl, b1⟩
  have d2 : decide ((1000 : Int) < (key.size : Int)) = false := decide_eq_false (by omega)
  have hn60 : n ≤ 60 := by omega
  have hk1000 : key.size ≤ 1000 := by omega
  clear hbig hbig2
  go_wp2_with fail
  refine (mnew_any w).mono ?_
  rintro _ w1 ⟨q, p, g0, rfl, m0, b0⟩
  go_wp2
  go_loopw [8] (fun i wr => ∃ (k g cap : Nat) (Am : Option Addr) (s : MSt), k ≤ n ∧ i = .int .i64 (k : Int) ∧ MemS wr w.heap.size q p g Am cap s false ∧ MOk s k ∧ Below w.heap.size w wr) (fun i _ => n - (intOf i).toNat)
  case atStart => exact ⟨0, g0, 0, none, MSt.none, by omega, rfl, m0, MOk.none, b0⟩
  case round =>
    clear m0 b0
    obtain ⟨k, g, cap, Am, s, hk, rfl, mS, ok, hbel⟩ := hrel
    by_cases hlt : k < n
    · obtain ⟨b, off, y, rfl, hy, c0, c1, c2, c3, c4, c5, _, _⟩ := lms_atP (hrd.below hbel) hn.out hlt
      have hfit := hls.out y (List.mem_of_getElem? hy)
      obtain ⟨⟨yk, yva, yse, yli, yki, yv⟩, yh, yz⟩ := y
      simp only at c0 c1 c2 c3 c4 c5
      have hdk : decide (k < n) = true := by simpa using hlt
      by_cases hg : 1000 < yk.size ∨ 1000 < yv.size
      · have pg := greatFt_any wr ⟨yk, yva, yse, yli, yki, yv⟩ true (by simpa using hg)
        clear hg hfit
        go_wp2_with fail
        refine pg.mono ?_
        clear pg
        rintro _ w2 ⟨rfl, b2⟩
        go_wp2_with fail
        refine (lives_any _).mono ?_
        rintro _ w3 ⟨rfl, b3⟩
        have b23 := hbel.trans (b2.mono hbel.size)
        have bb := b23.trans (b3.mono b23.size)
        go_wp2
        go_ret
        exact ⟨rfl, bb⟩
      · have pg := greatFt_any wr ⟨yk, yva, yse, yli, yki, yv⟩ false (by simpa using hg)
        have hv : yv.size ≤ 1000 := by omega
        clear hg
        go_wp2_with fail
        refine pg.mono ?_
        clear pg
        rintro _ w2 ⟨rfl, b2⟩
        have mS2 : MemS w2 w.heap.size q p g Am cap s false := MemAt.below mS b2
        have hb2 := hbel.trans (b2.mono hbel.size)
        obtain ⟨b', off', y', he, hy', e0, e1, e2, e3, e4, e5, _, _⟩ := lms_atP (hrd.below hb2) hn.out hlt
        cases he
        rw [hy] at hy'
        cases hy'
        simp only at e0 e1 e2 e3 e4 e5
        clear c0 c1 c2 c3 c4 c5
        have pc := mput_step mS2 ok (by omega) ⟨yk, yva, yse, yli, yki, yv⟩ hfit.1 hv (1 + (k : Int) % 8)
        have ok2 := ok.step ⟨yk, yva, yse, yli, yki, yv⟩ (1 + (k : Int) % 8) hfit.1 hv
        generalize stepM s ⟨yk, yva, yse, yli, yki, yv⟩ (1 + (k : Int) % 8) = r at pc ok2
        obtain ⟨r1, s2⟩ := r
        replace pc := Lib.hid pc
        clear mS ok hy hfit hv b2
        go_wp2_with fail
        refine pc.out.mono ?_
        rintro _ w3 ⟨g3, A3, cap3, rfl, mS3, kb, _⟩
        have hb3 := hb2.trans (MemAt.putB mS2 kb hb2.size)
        go_wp2
        go_roundw
        case rel => exact ⟨k + 1, g3, cap3, A3, s2, by omega, by go_num, mS3, ok2, hb3⟩
        case measure => simp [intOf] <;> omega
    · obtain rfl : k = n := by omega
      have hdk : decide (k < k) = false := by simp
      have hfl := ok.few
      have hml := ok.len
      obtain ⟨T, hT, hTl⟩ := from_split s.M (seekL key va)
      have hQl := dropWhile_not ok.rises (K := seekL key va)
      obtain ⟨Q, hQ⟩ : ∃ Q, fromM s.M (seekL key va) = Q := ⟨_, rfl⟩
      rw [hQ] at hT hQl
      have pf := mfacts_any _ q p g cap Am s.M s.fs s.b false wr mS (by omega)
      go_wp2_with fail
      refine pf.mono ?_
      clear pf
      rintro _ w2 ⟨A1, n1, c1, rfl, hn1, row1, b1⟩
      have r1 := Rd.of_own row1
      have mS2 : MemS w2 w.heap.size q p g Am cap s false := MemAt.below mS b1
      have hb2 := hbel.trans (b1.mono hbel.size)
      clear mS b1 hbel row1
      have pg := got_any _ q p g cap Am s.M s.fs s.b false w2 mS2 (by omega) key va hva (by omega) 1000 (by omega) (by omega)
      rw [hQ] at pg
      obtain ⟨t, ht⟩ : ∃ t, T.length = t := ⟨_, rfl⟩
      obtain ⟨n2, hn2⟩ : ∃ n2, Q.length = n2 := ⟨_, rfl⟩
      have hn12 : n1 = t + n2 := by rw [← hn1, hT, List.length_append, ht, hn2]
      have hn1' : n1 ≤ 60 := by omega
      have e1000 : (placed s.fs Q).take 1000 = placed s.fs Q := List.take_of_length_le (by rw [placed_length]; omega)
      rw [e1000, placed_length, hn2] at pg
      replace pg := Lib.hid pg
      replace hT := Lib.hid hT
      replace hTl := Lib.hid hTl
      replace hQl := Lib.hid hQl
      replace ht := Lib.hid ht
      replace hn1 := Lib.hid hn1
      replace hn2 := Lib.hid hn2
      replace hQ := Lib.hid hQ
      replace e1000 := Lib.hid e1000
      replace ok := Lib.hid ok
      go_wp2_with fail
      refine pg.out.mono ?_
      clear pg
      rintro _ w3 ⟨v3, rfl, row3, b3⟩
      obtain ⟨A2, c2, rfl⟩ : ∃ A c, v3 = .slice A n2 c := by
        rcases row3.2 with ⟨rfl, h0⟩ | ⟨g', cap', cur, rfl, _⟩
        · exact ⟨none, 0, by rw [h0]⟩
        · exact ⟨_, _, rfl⟩
      have hcap2 := own_cap row3
      have r2 := Rd.of_own row3
      replace r1 := r1.below b3
      have hb3 := hb2.trans (b3.mono hb2.size)
      clear mS2 hb2 b3 row3
      have hsub : (n1 : Int) - (n2 : Int) = (t : Int) := by omega
      have hsub2 : n1 - t = n2 := by omega
      have htc : t ≤ n1 := by omega
      replace hn12 := Lib.hid hn12
      have hcap2' := hcap2.2
      unfold maxLen at hcap2'
      have fin : ∀ (A' : Option Addr) (cc : Nat), (t < n1 → A' = A1.map (·.add (t * 6))) → Calls Try.prog 13 #[.slice A' n2 cc, .slice A2 n2 c2] w3 fun e w' => e = .returned (.bool true) ∧ Below w3.heap.size w3 w' := by
        intro A' cc hA
        have h1 := r1.cut htc (Nat.le_refl _) hA
        have e1 : ((ftC (placed s.fs s.M)).drop (t * 6)).take ((n1 - t) * 6) = ftC (placed s.fs Q) := by
          rw [hT.out, placed_append, ftC_append, List.drop_append_of_le_length (by rw [ftC_length, placed_length, ht.out]; omega), List.drop_of_length_le (by rw [ftC_length, placed_length, ht.out]; omega), List.nil_append]
          exact List.take_of_length_le (by rw [ftC_length, placed_length, hn2.out]; omega)
        rw [e1, hsub2] at h1
        have hpl : (placed s.fs Q).length = n2 := by rw [placed_length, hn2.out]
        exact sameFt_yes w3 A' A2 n2 cc c2 (placed s.fs Q) hpl (by omega) (by unfold Fs; rw [hpl]; exact h1) (by unfold Fs; rw [hpl]; exact r2)
      replace fin := Lib.hid fin
      have elem : ∀ j, j < n1 → ∀ W : World, Rd W 6 A1 n1 (ftC (placed s.fs s.M)) → ∃ (f : Ft) (b off : Nat), A1 = some ⟨b, off, none⟩ ∧ W.cell? ⟨b, off + j * 6, none⟩ = some (.string f.k) ∧ W.cell? ⟨b, off + j * 6 + 1, none⟩ = some (.int .u32 (f.va : Int)) ∧ W.cell? ⟨b, off + j * 6 + 2, none⟩ = some (.int .u64 (f.se : Int)) ∧
          W.cell? ⟨b, off + j * 6 + 3, none⟩ = some (.int .u64 (f.li : Int)) ∧ W.cell? ⟨b, off + j * 6 + 4, none⟩ = some (.int .u8 (f.ki : Int)) ∧ W.cell? ⟨b, off + j * 6 + 5, none⟩ = some (.string f.v) ∧ f.fit ∧ ((Op.bytesLess f.k.toList key.toList = true ∧ decide (j < t) = true) ∨ (f.k = key ∧ Op.bytesLess key.toList key.toList = false ∧ decide (j < t) = decide (va < f.va)) ∨ (Op.bytesLess f.k.toList key.toList = false ∧ ¬ f.k.toList = key.toList ∧ decide (j < t) = false)) := by
        intro j hj W hR
        have hjM : j < s.M.length := by rw [hn1.out]; exact hj
        have hpl : (placed s.fs s.M).length = n1 := by rw [placed_length, hn1.out]
        have hjp : j < (placed s.fs s.M).length := by rw [hpl]; exact hj
        obtain ⟨b, off, hA, _, hc⟩ := Fs.at_ (w := W) (A := A1) (fs := placed s.fs s.M) (by unfold Fs; rw [hpl]; exact hR) hjp
        obtain ⟨h0, h1, h2, h3, h4, h5⟩ := hc j hjp
        have hpe : (placed s.fs s.M)[j] = s.fs.getD (s.M[j]).2.toNat Ft.zero := List.getElem_map _
        obtain ⟨hk1, hk2⟩ := ok.out.told (List.getElem_mem hjM)
        have hfit := (ok.out.fit _ hk2).1
        rw [← hpe] at hk1 hk2 hfit
        refine ⟨(placed s.fs s.M)[j], b, off, hA, h0, h1, h2, h3, h4, h5, hfit, ?_⟩
        have hi := ahead_iff _ hfit key hva
        rw [hk1] at hi
        have htl := ht.out
        by_cases hjt : j < t
        · have hjT : j < T.length := by omega
          have hMj : s.M[j] = T[j] := by
            have h1 : s.M[j]? = T[j]? := by rw [hT.out, List.getElem?_append_left hjT]
            rw [List.getElem?_eq_getElem hjM, List.getElem?_eq_getElem hjT] at h1
            exact Option.some.inj h1
          have hl := hTl.out _ (List.getElem_mem hjT)
          rw [← hMj] at hl
          have hd := decide_eq_true hjt
          rcases hi.1 hl with h | ⟨h, h'⟩
          · exact .inl ⟨h, hd⟩
          · exact .inr (.inl ⟨h, less_irrefl _, by rw [hd, decide_eq_true h']⟩)
        · have hMj : s.M[j] ∈ Q := by
            have h1 : s.M[j]? = Q[j - T.length]? := by rw [hT.out, List.getElem?_append_right (by omega)]
            rw [List.getElem?_eq_getElem hjM] at h1
            exact List.mem_of_getElem? h1.symm
          have hl := hQl.out _ hMj
          have hd := decide_eq_false hjt
          have hn : ¬ (less (placed s.fs s.M)[j].k.toList key.toList = true ∨ ((placed s.fs s.M)[j].k = key ∧ va < (placed s.fs s.M)[j].va)) := by
            rw [← hi, hl]
            simp
          by_cases he : (placed s.fs s.M)[j].k = key
          · exact .inr (.inl ⟨he, less_irrefl _, by rw [hd]; symm; exact decide_eq_false (fun h => hn (.inr ⟨he, h⟩))⟩)
          · refine .inr (.inr ⟨?_, fun h => he ?_, hd⟩)
            · show less _ _ = false
              rw [← Bool.not_eq_true]
              exact fun h => hn (.inl h)
            · exact toList_inj h
      replace elem := Lib.hid elem
      by_cases hct : n1 = t
      · have hn0 : n2 = 0 := by have := hn12.out; omega
        subst hn0
        have pc := fin.out A1 0 (fun h => absurd h (by omega))
        subst hct
        clear fin
        go_wp2_with fail
        refine pc.mono ?_
        clear pc
        rintro _ w4 ⟨rfl, b4⟩
        replace r1 := r1.below b4
        have hb4 := hb3.trans (b4.mono hb3.size)
        try clear r2 b4 hb3 hsub htc
        go_wp2
        go_loopw [12] (fun i wr => ∃ j : Nat, j ≤ n1 ∧ i = .int .i64 (j : Int) ∧ Below w4.heap.size w4 wr) (fun i _ => n1 - (intOf i).toNat)
        case atStart => exact ⟨0, by omega, rfl, Below.refl _ _⟩
        case round =>
          obtain ⟨j, hj, rfl, hb5⟩ := hrel
          by_cases hlt2 : j < n1
          · obtain ⟨f, b, off, ha, c0, c1', c2', c3, c4, c5, hfit, hfb⟩ := elem.out j hlt2 _ (r1.below hb5)
            subst ha
            obtain ⟨fk, fva, fse, fli, fki, fv⟩ := f
            simp only at c0 c1' c2' c3 c4 c5 hfb
            clear elem hls
            have hdn : decide (j < n1) = true := by simpa using hlt2
            rcases hfb with ⟨h1, h2⟩ | ⟨rfl, h1, h2⟩ | ⟨h1, h3, h2⟩
            · go_wp2
              go_roundw
              case rel => exact ⟨j + 1, by omega, by go_num, hb5.alloc hb5.size _⟩
              case measure => simp [intOf] <;> omega
            · cases hva2 : decide (va < fva)
              · first
                | (exfalso; rw [h2, hva2] at hdn; cases hdn; done)
                | (go_wp2
                   go_roundw
                   case rel => exact ⟨j + 1, by omega, by go_num, hb5.alloc hb5.size _⟩
                   case measure => simp [intOf] <;> omega)
              · go_wp2
                go_roundw
                case rel => exact ⟨j + 1, by omega, by go_num, hb5.alloc hb5.size _⟩
                case measure => simp [intOf] <;> omega
            · first
              | (exfalso; rw [h2] at hdn; cases hdn; done)
              | (go_wp2
                 clear h1 h2 h3
                 go_roundw
                 case rel => exact ⟨j + 1, by omega, by go_num, hb5.alloc hb5.size _⟩
                 case measure => simp [intOf] <;> omega)
          · obtain rfl : j = n1 := by omega
            have hbb := hb4.trans (hb5.mono hb4.size)
            clear elem
            go_wp2_with fail
            refine (lives_any _).mono ?_
            rintro _ w5 ⟨rfl, b5⟩
            have bb := hbb.trans (b5.mono hbb.size)
            go_wp2
            go_ret
            exact ⟨rfl, bb⟩
      · have pc := fin.out _ n2 (fun _ => rfl)
        have e12 := hn12.out
        clear hsub hsub2 hn12
        subst e12
        have hn2p : ¬ n2 = 0 := by omega
        clear hct
        clear fin
        go_wp2_with fail
        refine pc.mono ?_
        clear pc
        rintro _ w4 ⟨rfl, b4⟩
        replace r1 := r1.below b4
        have hb4 := hb3.trans (b4.mono hb3.size)
        try clear r2 b4 hb3 hsub htc
        generalize Option.map (fun x : Addr => x.add (t * 6)) A1 = A3
        go_wp2
        go_loopw [12] (fun i wr => ∃ j : Nat, j ≤ t + n2 ∧ i = .int .i64 (j : Int) ∧ Below w4.heap.size w4 wr) (fun i _ => t + n2 - (intOf i).toNat)
        case atStart => exact ⟨0, by omega, rfl, Below.refl _ _⟩
        case round =>
          obtain ⟨j, hj, rfl, hb5⟩ := hrel
          by_cases hlt2 : j < t + n2
          · obtain ⟨f, b, off, ha, c0, c1', c2', c3, c4, c5, hfit, hfb⟩ := elem.out j hlt2 _ (r1.below hb5)
            subst ha
            obtain ⟨fk, fva, fse, fli, fki, fv⟩ := f
            simp only at c0 c1' c2' c3 c4 c5 hfb
            clear elem hls
            have hdn : decide (j < t + n2) = true := by simpa using hlt2
            rcases hfb with ⟨h1, h2⟩ | ⟨rfl, h1, h2⟩ | ⟨h1, h3, h2⟩
            · go_wp2
              go_roundw
              case rel => exact ⟨j + 1, by omega, by go_num, hb5.alloc hb5.size _⟩
              case measure => simp [intOf] <;> omega
            · cases hva2 : decide (va < fva)
              · first
                | (exfalso; rw [h2, hva2] at hdn; cases hdn; done)
                | (go_wp2
                   go_roundw
                   case rel => exact ⟨j + 1, by omega, by go_num, hb5.alloc hb5.size _⟩
                   case measure => simp [intOf] <;> omega)
              · go_wp2
                go_roundw
                case rel => exact ⟨j + 1, by omega, by go_num, hb5.alloc hb5.size _⟩
                case measure => simp [intOf] <;> omega
            · first
              | (exfalso; rw [h2] at hdn; cases hdn; done)
              | (go_wp2
                 clear h1 h2 h3
                 go_roundw
                 case rel => exact ⟨j + 1, by omega, by go_num, hb5.alloc hb5.size _⟩
                 case measure => simp [intOf] <;> omega)
          · obtain rfl : j = t + n2 := by omega
            have hbb := hb4.trans (hb5.mono hb4.size)
            clear elem
            go_wp2_with fail
            refine (lives_any _).mono ?_
            rintro _ w5 ⟨rfl, b5⟩
            have bb := hbb.trans (b5.mono hbb.size)
            go_wp2
            go_ret
            exact ⟨rfl, bb⟩

/-! ### from the walk to the statement (by tail.py) -/
set_option maxRecDepth 100000 in
theorem lifted (os : Os) (started : os.Started) (H : Type) (enc : TypeId × Value → H) :
    ReturnsInHanded {} Try.checked os 3 .any (Rows.memsFromSpec.pre6 enc Try.prog Try.f3 Rows.memsFromRow.domain false) (Rows.memsFromSpec.post enc Try.prog Try.f3 false true false false) := by
  refine lifted_of (C := Try.checked) (tb := 4) (n := 3) (by kernel_rfl) started (by kernel_rfl) Try.func3 (by kernel_rfl) (by kernel_rfl) rfl (by kernel_rfl) Try.underlying4 (by kernel_rfl)
    (fun ds hd => by match ds, hd with | [d1, d2, d3], _ => exact ⟨rfl, rfl, rfl⟩)
    (ChangeSpec.witness6 (enc := enc) (C := Try.checked) false ⟨#[], #[.slice none 0 0, .string ByteArray.empty, .int .u32 0], []⟩ 8 (by kernel_rfl) (by kernel_rfl) (by kernel_rfl) (by kernel_rfl)) ?_
  intro W base args ds before hval hA hsz
  rw [Try.params3] at hA hval hsz
  obtain ⟨v0, vs0, d0, ds0, p0, q0, rfl, rfl, rfl, h0, r0⟩ := trodAll_cons hA
  obtain ⟨v1, vs1, d1, ds1, p1, q1, rfl, rfl, rfl, h1, r1⟩ := trodAll_cons r0
  obtain ⟨v2, vs2, d2, ds2, p2, q2, rfl, rfl, rfl, h2, r2⟩ := trodAll_cons r1
  obtain ⟨rfl, rfl, rfl⟩ := trodAll_nil r2
  obtain ⟨A0, c0, ls0, rfl, hrd0, hlc0, hls0⟩ := open_mlaids (hval 0 _ _ rfl rfl) h0
  obtain ⟨s1, rfl, hcap1⟩ := open_str Try.underlying9 (hval 1 _ _ rfl rfl) h1
  have hs1 := hcap1 hsz 1 rfl rfl
  obtain ⟨x2, rfl, hx2⟩ := open_u32 Try.underlying23 (hval 2 _ _ rfl rfl) h2
  exact walk W A0 c0 ls0 hrd0 hls0 s1 (by have := reachBytes_lt; omega) x2 hx2

theorem over : Rows.memsFromRow.holds Try.pinned (OpenSpec.ofChange Rows.memsFromSpec) :=
  OpenClaim.holds_of_wide 3 Try.f3 rfl rfl rfl rfl rfl rfl rfl ⟨rfl, rfl, rfl, rfl, rfl⟩ rfl rfl rfl rfl rfl (by kernel_rfl) Try.func3 (by kernel_rfl)
    (of_decide_eq_true (by kernel_rfl)) (by unfold Func.isWrapper; first | (rw [if_pos (by decide +kernel)]; kernel_rfl) | (rw [if_neg (by decide +kernel)]; exact ⟨rfl, rfl⟩))
    (fun os started H enc _ => lifted os started H enc)

theorem proved : Rows.MemsFromSaid := over
end Go.Proofs.Ytdifdbkbpeanhaa.lawMemsFrom
