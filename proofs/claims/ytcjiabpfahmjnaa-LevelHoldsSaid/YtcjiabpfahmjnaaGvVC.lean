/- Words for conditions. -/
import Derived.Test.YtcjiabpfahmjnaaGvShut
set_option linter.unusedVariables false
namespace Gv
open Go

def allSolid : List GVal → Prop
  | [] => True
  | x :: r => x.solid = true ∧ allSolid r
theorem allSolid_eq : ∀ l : List GVal, (∀ c ∈ l, c.solid = true) = allSolid l
  | [] => by simp [allSolid]
  | x :: r => by rw [allSolid, ← allSolid_eq r]; simp
theorem okCells_eq (g : GVal) : g.okCells = allSolid g.cells := allSolid_eq _
theorem all_nil {α : Type} (p : α → Prop) : (∀ x ∈ ([] : List α), p x) = True := by simp
theorem all_cons {α : Type} (p : α → Prop) (a : α) (l : List α) : (∀ x ∈ a :: l, p x) = (p a ∧ ∀ x ∈ l, p x) := by simp
theorem all_append {α : Type} (p : α → Prop) (a b : List α) : (∀ x ∈ a ++ b, p x) = ((∀ x ∈ a, p x) ∧ ∀ x ∈ b, p x) := by
  simp [or_imp, forall_and]
theorem all_ints (l : List Int) : (∀ x ∈ ints l, x.length = 1) = True := by simp [ints]
theorem stamp_nil (K : Nat → Prop) : stamp [] K = ∀ st, K st := rfl
theorem stamp_tok (a b : Nat) (r : List GObj) (K : Nat → Prop) : stamp (.tok a b :: r) K = ∀ st, K st := rfl
theorem stamp_row (a b : Nat) (xs : List (List GVal)) (r : List GObj) (K : Nat → Prop) : stamp (.row a b xs :: r) K = ∀ st, K st := rfl
theorem stamp_map (a : Nat) (xs : List (GVal × GVal)) (r : List GObj) (K : Nat → Prop) : stamp (.map a xs :: r) K = ∀ st, K st := rfl
theorem tick_nil : tickO [] = [] := rfl
theorem tick_tok (a b : Nat) (r : List GObj) : tickO (.tok a b :: r) = .tok a b :: r := rfl
theorem tick_row (a b : Nat) (xs : List (List GVal)) (r : List GObj) : tickO (.row a b xs :: r) = .row a b xs :: r := rfl
theorem tick_map (a : Nat) (xs : List (GVal × GVal)) (r : List GObj) : tickO (.map a xs :: r) = .map a xs :: r := rfl
theorem clock_nil : clockOf [] = none := rfl
theorem sget_nil (n : Nat) : sget [] n = .any := rfl

/-- a list of lists of integers -/
def tabG (l : List (List Int)) : List (List GVal) := l.map fun p => [.slice (ints p) .none]
theorem tabG_length (l : List (List Int)) : (tabG l).length = l.length := by simp [tabG]
theorem tabG_at (l : List (List Int)) (i : Nat) (h : i < l.length) : (tabG l).getD i [] = [.slice (ints (l.getD i [])) .none] := by simp [tabG, List.getD, h]
theorem tabG_append (a b : List (List Int)) : tabG (a ++ b) = tabG a ++ tabG b := by simp [tabG]
theorem tabG_nil : tabG [] = [] := rfl
theorem all_tabG (l : List (List Int)) : (∀ x ∈ tabG l, x.length = 1) = True := by simp [tabG]
theorem contains_one (a : Nat) : [a].contains a = true := by simp
theorem if_self_and (p : Prop) : (True ∧ p) = p := true_and p

/-- an outgrown slice of integers is any list's that is the same -/
theorem leG_ints (a b : List Int) (t : Tag) (h : a = b) : leG (.slice (ints a) t) (.slice (ints b) .none) := by rw [leG_none, h]

/-- less said, inside an aggregate too -/
def leA (x y : GVal) : Prop :=
  match x, y with
  | .agg xs, .agg ys => WL xs ys
  | .tuple xs, .tuple ys => WL xs ys
  | x, y => leG x y
theorem leA.sound {E : Env} {v : Value} {x y : GVal} (h : leA x y) (hv : VR E v x) : VR E v y := by
  unfold leA at h
  split at h
  · rename_i xs ys
    cases hv with
    | agg vs cs hs hc =>
      refine .agg vs ys (by rw [hs, h.len]) (fun j g hg => ?_)
      obtain ⟨x, hx, hl⟩ := h.at_ j g hg
      exact hl.sound (hc j x hx)
  · rename_i xs ys
    cases hv with
    | tuple vs cs hs hc =>
      refine .tuple vs ys (by rw [hs, h.len]) (fun j g hg => ?_)
      obtain ⟨x, hx, hl⟩ := h.at_ j g hg
      exact hl.sound (hc j x hx)
  · exact h.sound hv
theorem leA_int (k k' : IntKind) (a b : Int) : leA (.int k a) (.int k' b) = (k = k' ∧ a = b) := by unfold leA; simp [leG_int]
theorem leA_bool (a b : Bool) : leA (.bool a) (.bool b) = (a = b) := by unfold leA; simp [leG_bool]
theorem leA_slice (xs ys : List (List GVal)) (t : Tag) : leA (.slice xs t) (.slice ys .none) = (xs = ys) := by unfold leA; simp [leG_none]
theorem leA_agg (xs ys : List GVal) : leA (.agg xs) (.agg ys) = WL xs ys := rfl
theorem leA_tuple (xs ys : List GVal) : leA (.tuple xs) (.tuple ys) = WL xs ys := rfl
theorem WL_nil : WL [] [] = True := rfl
theorem WL_cons (x y : GVal) (xs ys : List GVal) : WL (x :: xs) (y :: ys) = (leG x y ∧ WL xs ys) := rfl

theorem GInto.leA {g r : GVal} {O : List GObj} {N : GVal → List GObj → Prop} (h : Gv.leA g r) (hn : N r []) : GInto g O N := fun E v w hs hv => by
  obtain ⟨h1, h2⟩ := HSim.drop (O := []) (X := O) (by simpa using hs)
  exact ⟨r, [], E, hn, h1, by simpa using h2, h.sound hv⟩

/-- one function's pure contract, from its conditions; less may be said of its value, inside it too -/
theorem gpure_of_vc2 {P : Program} (hmix : P.follows .mixedOrders = true) {f : FuncId} {fn : Func} {c : Code} {n : Nat} {rs : Array ResultVar} (C : Cfg) {args : List GVal} {r : GVal}
    (hf : P.funcs[f]? = some fn) (hb : fn.body = some c) (hn : fn.ntmps = n) (hr : fn.results = rs) (hen : enterable P f = true) (hargs : args.length ≤ n) (hcok : codeOk C c = true)
    (hvc : vc P C c (retQ P rs.toList (fun g O' => leA g r)) (gstart n args [])) : GPure P f args r :=
  GCalls.into ((gcalls_of_vc hmix C hf hb hn hr hen hargs hcok hvc).mono fun g O' h => GInto.leA h ⟨rfl, rfl⟩)

end Gv
