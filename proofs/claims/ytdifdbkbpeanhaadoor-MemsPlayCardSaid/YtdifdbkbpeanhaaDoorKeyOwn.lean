/- keys.Put, keys.Seek once more: their answers lie in blocks of their own. -/
import Derived.Test.YtdifdbkbpeanhaaDoorKeyPut2
set_option linter.unusedSimpArgs false
set_option linter.unusedVariables false
namespace Go.Proofs.YtdifdbkbpeanhaaDoor
open Go Go.RowKit Herb

theorem own_blk {w : World} {base n g cap : Nat} {e : TypeId} {xs : List Value} (h : w.ownsRow base e 1 (.slice (some ⟨g, 0, none⟩) n cap) n xs) : ∃ cur, Blk w g e cur ∧ n ≤ cur.size := by
  rcases h.2 with ⟨h0, _⟩ | ⟨g', cap', cur, h0, hbg, hg, hnc, hcm, hcs, _⟩
  · cases h0
  · cases h0
    exact ⟨cur, (show Blk w g e cur from hg), by omega⟩
set_option maxRecDepth 100000 in
set_option maxHeartbeats 1600000 in
theorem put_own (w : World) (k v : ByteArray) (va se li ki : Nat) (h1 : va < 4294967296) (h2 : se < 18446744073709551616) (h3 : ki < 256) (hm : mayB k se ki = true) :
    Calls Tryd.prog 23 #[.agg #[.string k, .int .u32 (va : Int), .int .u64 (se : Int), .int .u64 (li : Int), .int .u8 (ki : Int), .string v]] w
      fun e w' => ∃ g n, e = .returned (.tuple #[.slice (some ⟨g, 0, none⟩) n n, .int .i64 0]) ∧ n = (putL k va se ki).length ∧ w.heap.size ≤ g ∧ (∃ cur, Blk w' g 5 cur ∧ n ≤ cur.size) ∧ Bs w' (some ⟨g, 0, none⟩) (putL k va se ki) ∧ Below w.heap.size w w' := by
  have hk32 : k.size ≤ 32 := by unfold mayB at hm; simp at hm; omega
  have pm := may_any (w.alloc (.cells #[.string k, .int .u32 (va : Int), .int .u64 (se : Int), .int .u64 (li : Int), .int .u8 (ki : Int), .string v] 27)) k v va se li ki
  rw [hm] at pm
  replace hm := Lib.hid hm
  have kb := Blk.new w 27 #[.string k, .int .u32 (va : Int), .int .u64 (se : Int), .int .u64 (li : Int), .int .u8 (ki : Int), .string v]
  have hb := (Below.refl w.heap.size w).alloc (Nat.le_refl _) (.cells #[.string k, .int .u32 (va : Int), .int .u64 (se : Int), .int .u64 (li : Int), .int .u8 (ki : Int), .string v] 27)
  go_enter Tryd.func23, Tryd.ntmps23
  go_wp2_with fail
  refine pm.mono ?_
  clear pm
  rintro _ w1 ⟨rfl, b1⟩
  replace kb := kb.below b1 kb.lt
  replace b1 := hb.trans (b1.mono hb.size)
  have c1 := kb.cell
  clear hb
  go_wp2_with fail
  refine (tailOf_any w1 va se ki h1 h2 h3).mono ?_
  rintro _ w2 ⟨rfl, b2⟩
  replace kb := kb.below b2 kb.lt
  replace b2 := b1.trans (b2.mono b1.size)
  clear c1 b1
  have kt0 := Blk.new w2 83 #[.int .u8 0, .int .u8 0, .int .u8 0, .int .u8 0, .int .u8 0, .int .u8 0, .int .u8 0, .int .u8 0, .int .u8 0, .int .u8 0, .int .u8 0, .int .u8 0, .int .u8 0]
  go_wp2_with (refine wpList_store_blk rfl 83 _ _ rfl w2.heap.size rfl kt0 (bvs (tailL va se ki)).toArray rfl (tail_cells va se ki) (tail_sz va se ki).symm (bvs_all _) ?_)
  have kt := kt0.setRow (bvs (tailL va se ki)).toArray
  have kb3 := (kb.alloc (.cells #[.int .u8 0, .int .u8 0, .int .u8 0, .int .u8 0, .int .u8 0, .int .u8 0, .int .u8 0, .int .u8 0, .int .u8 0, .int .u8 0, .int .u8 0, .int .u8 0, .int .u8 0] 83)).setRow_far (g' := w2.heap.size) (by have := kb.lt; omega) (bvs (tailL va se ki)).toArray
  have b3 := below_setRow' (g := w2.heap.size) (b2.alloc b2.size (.cells #[.int .u8 0, .int .u8 0, .int .u8 0, .int .u8 0, .int .u8 0, .int .u8 0, .int .u8 0, .int .u8 0, .int .u8 0, .int .u8 0, .int .u8 0, .int .u8 0, .int .u8 0] 83)) b2.size (bvs (tailL va se ki)).toArray
  obtain ⟨T, hT⟩ : ∃ T, w2.heap.size = T := ⟨_, rfl⟩
  rw [hT] at kt kb3 b3 ⊢
  generalize (w2.alloc (.cells #[.int .u8 0, .int .u8 0, .int .u8 0, .int .u8 0, .int .u8 0, .int .u8 0, .int .u8 0, .int .u8 0, .int .u8 0, .int .u8 0, .int .u8 0, .int .u8 0, .int .u8 0] 83)).setRow T (bvs (tailL va se ki)).toArray = w3 at *
  have hrt : Rd w3 1 (some ⟨T, 0, none⟩) 13 (bvs (tailL va se ki)) := kt.rd (by rw [bvs_length, tailL_length]) (fun j u hu => by simpa using hu)
  have c3 := kb3.cell
  obtain ⟨E, hE⟩ : ∃ E, (esc k.data.toList).length = E := ⟨_, rfl⟩
  have hE66 : E ≤ 66 := by
    have := esc_length k.data.toList
    have hk : k.data.toList.length = k.size := rfl
    omega
  have hlen : (putL k va se ki).length = E + 13 := by unfold putL; rw [List.length_append, hE, tailL_length]
  have one1 := bvs_one (tailL va se ki)
  replace hE := Lib.hid hE
  replace hlen := Lib.hid hlen
  replace hT := Lib.hid hT
  clear kt0 kb b2 kt kb3
  go_region_law (first
    | (refine step_app _ (by rfl) (.tmp 17) (.tmp 18) (by rfl) Tryd.underlying57 info_u8 (by rfl) (by omega) hown4 (by rfl) _ 13 13 hrt4 (by rfl) one1 (by unfold maxLen; omega) (by omega) b4.size ?_; intro v5 w5 hown5 hgrow5 _; have b5 : Below w3.heap.size w3 w5 := below_app b4 hown4 (Nat.le_refl _) b4.size hgrow5; obtain ⟨g5, cp5, rfl, hg5, hg5'⟩ := hown5.form (by omega))
    | (go_simp; go_at_call 39; refine (escaped_any _ k k.size rfl (by omega)).mono ?_; rintro _ w4 ⟨v4, n4, rfl, hn4, hown4, b4⟩; rw [hE.out] at hn4; subst hn4; replace b4 : Below w3.heap.size w3 w4 := (Below.refl w3.heap.size w3).drew.trans b4; have hrt4 := hrt.below b4)
    | (go_simp; go_at_call 38; refine (clip_at _ _ _ _ (own_cap hown5).1 (own_cap hown5).2).mono ?_; rintro _ _ ⟨rfl, rfl⟩))
  all_goals
    rw [← bvs_append] at hown5
    have hbs := bs_of (Rd.of_own hown5) hlen.out
    have hsz := b3.size
    have hblk := own_blk hown5
    clear hown5 hgrow5 hown4 hrt4 hrt c3
    go_wp2
    go_ret2
    exact ⟨g5, n4 + 13, rfl, hlen.out.symm, Nat.le_trans hsz hg5, hblk, hbs, b3.trans (b5.mono hsz)⟩

set_option maxRecDepth 100000 in
set_option maxHeartbeats 1600000 in
theorem seek_own (w : World) (k : ByteArray) (va : Nat) (h1 : va < 4294967296) (hk : k.size ≤ 100000) :
    Calls Tryd.prog 51 #[.string k, .int .u32 (va : Int)] w
      fun e w' => ∃ g n, e = .returned (.slice (some ⟨g, 0, none⟩) n n) ∧ n = (seekL k va).length ∧ w.heap.size ≤ g ∧ (∃ cur, Blk w' g 5 cur ∧ n ≤ cur.size) ∧ Bs w' (some ⟨g, 0, none⟩) (seekL k va) ∧ Below w.heap.size w w' := by
  have pt := tailOf_any w va 0 0 h1 (by omega) (by omega)
  go_enter Tryd.func51, Tryd.ntmps51
  go_wp2_with fail
  refine pt.mono ?_
  clear pt
  rintro _ w2 ⟨rfl, b2⟩
  have kt0 := Blk.new w2 83 #[.int .u8 0, .int .u8 0, .int .u8 0, .int .u8 0, .int .u8 0, .int .u8 0, .int .u8 0, .int .u8 0, .int .u8 0, .int .u8 0, .int .u8 0, .int .u8 0, .int .u8 0]
  go_wp2_with (refine wpList_store_blk rfl 83 _ _ rfl w2.heap.size rfl kt0 (bvs (tailL va 0 0)).toArray rfl (tail_cells va 0 0) (tail_sz va 0 0).symm (bvs_all _) ?_)
  have kt := kt0.setRow (bvs (tailL va 0 0)).toArray
  have b3 := below_setRow' (g := w2.heap.size) (b2.alloc b2.size (.cells #[.int .u8 0, .int .u8 0, .int .u8 0, .int .u8 0, .int .u8 0, .int .u8 0, .int .u8 0, .int .u8 0, .int .u8 0, .int .u8 0, .int .u8 0, .int .u8 0, .int .u8 0] 83)) b2.size (bvs (tailL va 0 0)).toArray
  obtain ⟨T, hT⟩ : ∃ T, w2.heap.size = T := ⟨_, rfl⟩
  rw [hT] at kt b3 ⊢
  generalize (w2.alloc (.cells #[.int .u8 0, .int .u8 0, .int .u8 0, .int .u8 0, .int .u8 0, .int .u8 0, .int .u8 0, .int .u8 0, .int .u8 0, .int .u8 0, .int .u8 0, .int .u8 0, .int .u8 0] 83)).setRow T (bvs (tailL va 0 0)).toArray = w3 at *
  have hbt : Bs w3 (some ⟨T, 0, none⟩) (tailL va 0 0) := kt.rd (by rw [bvs_length]; omega) (fun j u hu => by simpa using hu)
  have hrt : Rd w3 1 (some ⟨T, 0, none⟩) 4 (bvs (be va 4)) := by
    have h := hbt.take 4
    unfold Bs at h
    rw [tailL_take, be_length] at h
    exact h
  obtain ⟨E, hE⟩ : ∃ E, (esc k.data.toList).length = E := ⟨_, rfl⟩
  have hE66 : E ≤ 200002 := by
    have := esc_length k.data.toList
    have hk : k.data.toList.length = k.size := rfl
    omega
  have hlen : (seekL k va).length = E + 4 := by unfold seekL; rw [List.length_append, hE, be_length]
  have one1 := bvs_one (be va 4)
  replace hE := Lib.hid hE
  replace hlen := Lib.hid hlen
  replace hT := Lib.hid hT
  clear kt0 b2 kt hbt
  go_region_law (first
    | (refine step_app _ (by rfl) (.tmp 9) (.tmp 10) (by rfl) Tryd.underlying57 info_u8 (by rfl) (by omega) hown4 (by rfl) _ 4 13 hrt4 (by rfl) one1 (by unfold maxLen; omega) (by omega) b4.size ?_; intro v5 w5 hown5 hgrow5 _; have b5 : Below w3.heap.size w3 w5 := below_app b4 hown4 (Nat.le_refl _) b4.size hgrow5; obtain ⟨g5, cp5, rfl, hg5, hg5'⟩ := hown5.form (by omega))
    | (go_simp; go_at_call 39; refine (escaped_any _ k k.size rfl (by omega)).mono ?_; rintro _ w4 ⟨v4, n4, rfl, hn4, hown4, b4⟩; rw [hE.out] at hn4; subst hn4; replace b4 : Below w3.heap.size w3 w4 := (Below.refl w3.heap.size w3).drew.trans b4; have hrt4 := hrt.below b4)
    | (go_simp; go_at_call 38; refine (clip_at _ _ _ _ (own_cap hown5).1 (own_cap hown5).2).mono ?_; rintro _ _ ⟨rfl, rfl⟩))
  all_goals
    rw [← bvs_append] at hown5
    have hbs := bs_of (Rd.of_own hown5) hlen.out
    have hsz := b3.size
    have hblk := own_blk hown5
    clear hown5 hgrow5 hown4 hrt4 hrt
    go_wp2
    go_ret
    exact ⟨g5, n4 + 4, rfl, hlen.out.symm, Nat.le_trans hsz hg5, hblk, hbs, b3.trans (b5.mono hsz)⟩
end Go.Proofs.YtdifdbkbpeanhaaDoor
