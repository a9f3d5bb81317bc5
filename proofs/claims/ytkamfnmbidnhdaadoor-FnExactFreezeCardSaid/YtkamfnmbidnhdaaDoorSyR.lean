/- The walk by a symbolic frame: guards. -/
import Derived.Test.YtkamfnmbidnhdaaDoorSyQ
set_option linter.unusedVariables false
set_option linter.unusedSimpArgs false
set_option linter.unusedSectionVars false
namespace Go.Sy
set_option linter.unusedVariables false
def guardE (l : List Oper) (o : Oper) : Option Nat :=
  match o.guard with
  | some (j, _) => match nth l j with
    | some oj => oj.dst
    | none => none
  | none => none
section
variable {P : Program} {F : Fr} {tm : Tm} {L : Lm} {u : Hp} {Q : Exit → Act → World → Prop}
theorem q_guard {q : Md} {l r : List Oper} {o : Oper} {d : Nat} {p : Prop} [Decidable p] (hg : guardE l o = some d) (hd : kget tm d = some (.v (.bool (decide p)))) (h1 : p → Run P Q F ((d, .v (.bool true)) :: tm) L u q l (o :: r)) (h2 : ¬ p → Run P Q F ((d, .v (.bool false)) :: tm) L u q l (o :: r)) :
    Run P Q F tm L u q l (o :: r) := q_case d hd (fun h => h1 (of_decide_eq_true h)) (fun h => h2 (of_decide_eq_false h))
theorem q_guardn {q : Md} {l r : List Oper} {o : Oper} {d : Nat} {p : Prop} [Decidable p] (hg : guardE l o = some d) (hd : kget tm d = some (.v (.bool (!decide p)))) (h1 : ¬ p → Run P Q F ((d, .v (.bool true)) :: tm) L u q l (o :: r)) (h2 : p → Run P Q F ((d, .v (.bool false)) :: tm) L u q l (o :: r)) :
    Run P Q F tm L u q l (o :: r) := q_case d hd (fun h => h1 (by simpa using h)) (fun h => h2 (by simpa using h))
end
end Go.Sy
