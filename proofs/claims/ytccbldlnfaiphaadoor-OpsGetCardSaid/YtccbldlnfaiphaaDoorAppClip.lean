/- append onto a slice without room behind: into a new block. No function of the program is named. -/
import Derived.Test.YtccbldlnfaiphaaDoorApp
import Derived.ArgAppend
set_option linter.unusedSimpArgs false
set_option linter.unusedVariables false
namespace Herb
open Go Go.RowKit
section
variable {P : Program} (w : World)
theorem run_app_clip {t ty e : TypeId} {z : Value} {bytes : Nat} (ht : P.underlying t = some (.slice e)) (hinfo : (P.info? e).map (fun i => (i.zero, i.size, i.bytes)) = some (some z, 1, bytes)) (hzs : z.cells.size = 1)
    {A : Option Addr} {n : Nat} {xs : List Value} (hx : Rd w 1 A n xs) (hn : 0 < n) (B : Option Addr) (m c : Nat) {news : List Value} (hr : Rd w 1 B m news) (hm : 0 < m) (h63 : n + m ≤ maxLen) (hbytes : (n + m) * bytes ≤ 140737488355328) :
    ∃ v' w', (Builtin.append_ #[t, t] ty #[.slice A n n, .slice B m c]).run P w = .ok v' w' ∧ w'.ownsRow w.heap.size e 1 v' (n + m) (xs ++ news) ∧ w.grownBy w' none := by
  obtain ⟨i, hi, hz, hs, hb⟩ := info_parts hinfo
  obtain ⟨b1, o1, rfl, _, c1⟩ := hx.2 hn
  obtain ⟨b2, o2, rfl, _, c2⟩ := hr.2 hm
  exact run_append_arg_grows (P := P) w t ty e i z 1 bytes ht hi hz hs hb hzs (by omega) ⟨b1, o1, none⟩ n n xs hx.1 (fun j u hu => by rw [add_eq]; exact c1 j u hu) ⟨b2, o2, none⟩ m c news hr.1 (fun j u hu => by rw [add_eq]; exact c2 j u hu) (by omega) h63 hbytes
theorem wpList_app_clip {ops : Array Oper} {rest : List Oper} {o : Oper} {a : Act} {Q : Exit → Act → World → Prop} (hgd : o.guard = none) (s x : Operand) {t : TypeId}
    (ho : o.op = .call { callee := .builtin .append, args := #[s, x], argTypes := #[t, t] })
    {e : TypeId} {z : Value} {bytes : Nat} (ht : P.underlying t = some (.slice e))
    (hinfo : (P.info? e).map (fun i => (i.zero, i.size, i.bytes)) = some (some z, 1, bytes)) (hzs : z.cells.size = 1)
    {A : Option Addr} {n : Nat} {xs : List Value} (hs : a.eval s = .slice A n n) (hxs : Rd w 1 A n xs) (hn : 0 < n) (B : Option Addr) (m c : Nat) {news : List Value} (hx : a.eval x = .slice B m c) (hr : Rd w 1 B m news) (hm : 0 < m)
    (h63 : n + m ≤ maxLen) (hbytes : (n + m) * bytes ≤ 140737488355328)
    (h : ∀ v' w', w'.ownsRow w.heap.size e 1 v' (n + m) (xs ++ news) → w.grownBy w' none → wpList P ops Q rest (a.put o.dst v') w') : wpList P ops Q (o :: rest) a w := by
  refine wpList_plain hgd fun K hK => ?_
  obtain ⟨v', w', hrun, h2, h3⟩ := run_app_clip (P := P) w (ty := o.type) ht hinfo hzs hxs hn B m c hr hm h63 hbytes
  unfold Oper.wp execOp
  simp only [ho, resolve, invoke, builtin, Sem.run_bind, Sem.run_pure, Result.andThen_ok, List.map_toArray, List.map_cons, List.map_nil, hs, hx, hrun]
  exact hK _ _ (h v' w' h2 h3)
/-- The same inside a region that draws its order. -/
theorem step_app_clip {ops : Array Oper} {o : Oper} {a : Act} {K : Act → World → Prop} {Q : Exit → Act → World → Prop} {E : Prop} (hgd : o.guard = none) (s x : Operand) {t : TypeId}
    (ho : o.op = .call { callee := .builtin .append, args := #[s, x], argTypes := #[t, t] })
    {e : TypeId} {z : Value} {bytes : Nat} (ht : P.underlying t = some (.slice e))
    (hinfo : (P.info? e).map (fun i => (i.zero, i.size, i.bytes)) = some (some z, 1, bytes)) (hzs : z.cells.size = 1)
    {A : Option Addr} {n : Nat} {xs : List Value} (hs : a.eval s = .slice A n n) (hxs : Rd w 1 A n xs) (hn : 0 < n) (B : Option Addr) (m c : Nat) {news : List Value} (hx : a.eval x = .slice B m c) (hr : Rd w 1 B m news) (hm : 0 < m)
    (h63 : n + m ≤ maxLen) (hbytes : (n + m) * bytes ≤ 140737488355328)
    (h : ∀ v' w', w'.ownsRow w.heap.size e 1 v' (n + m) (xs ++ news) → w.grownBy w' none → K (a.put o.dst v') w') :
    if Region.wanted o (yielded ops a.tmps) = true then Oper.wp P o a w K Q else E := by
  rw [if_pos (by simp [Region.wanted, hgd])]
  obtain ⟨v', w', hrun, h2, h3⟩ := run_app_clip (P := P) w (ty := o.type) ht hinfo hzs hxs hn B m c hr hm h63 hbytes
  unfold Oper.wp execOp
  simp only [ho, resolve, invoke, builtin, Sem.run_bind, Sem.run_pure, Result.andThen_ok, List.map_toArray, List.map_cons, List.map_nil, hs, hx, hrun]
  exact h v' w' h2 h3
end
/-- What grew nothing old. -/
theorem below_of_grown {w w' : World} (h : w.grownBy w' none) : Below w.heap.size w w' := (Below.refl _ _).grown h (Nat.le_refl _) (fun j hj => by cases hj)
end Herb
