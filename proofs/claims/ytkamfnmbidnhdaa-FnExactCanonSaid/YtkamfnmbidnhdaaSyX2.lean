/- The walk by a symbolic frame (SyX2): contracts of functions; each with its own conditions as hypotheses. -/
import Derived.Test.YtkamfnmbidnhdaaSy1T
namespace Go.Proofs.Ytkamfnmbidnhdaa
open Go.Sy
set_option maxRecDepth 100000
set_option linter.unusedVariables false
def szVf (s : ByteArray) (l : Int) : Int := if l - s.size < 0 then -1 else l - s.size
def szPf (p : Pr) (l : Int) : Int := if szVf p.key.s l < 0 then -1 else if szVf p.val.s (szVf p.key.s l) < 0 then -1 else szVf p.val.s (szVf p.key.s l)
def szPsf : List Pr → Int → Int
  | [], l => l
  | p :: r, l => if szPf p l < 0 then -1 else szPsf r (szPf p l)
theorem szVf_le (s : ByteArray) (l : Int) (h : 0 ≤ l) : -1 ≤ szVf s l ∧ szVf s l ≤ l := by unfold szVf; split <;> omega
theorem szPf_le (p : Pr) (l : Int) (h : 0 ≤ l) : -1 ≤ szPf p l ∧ szPf p l ≤ l := by
  have h1 := szVf_le p.key.s l h
  unfold szPf
  split
  · omega
  · rename_i h2
    have h3 := szVf_le p.val.s (szVf p.key.s l) (by omega)
    split <;> omega
theorem szVal (v : V) (l : Int) (h : Hp) (h0 : 0 ≤ l) (h1 : l ≤ 1048576) (hs : v.s.size ≤ 9223372036854775807) : Pur Try.prog 14 [.ag v.sv, .v (.int .i64 l)] h (fun y : Int => .v (.int .i64 y)) (szVf v.s l) := by
  refine enterS Try.func14 rfl (n := 13) rfl rfl (fun k N => ?_)
  repeat (any_goals (first | refine r_seq ?_ | refine r_region ?_ | refine r_nil ?_ | refine x_then ?_ | refine r_pure hT rfl rfl rfl rfl ?_ | refine r_new hT rfl rfl rfl rfl ?_ | refine r_write hT rfl rfl rfl ?_ | refine r_ret ?_ | refine x_then_ret ?_ | refine r_skip ?_ | refine r_cond_dec rfl (fun _ => ?_) (fun _ => ?_) | refine r_arith rfl rfl rfl rfl rfl rfl rfl (by omega) ?_ | refine r_fin hT rfl _ rfl rfl rfl trivial rfl ?_))
  · exact ⟨by unfold szVf; rw [if_pos (by assumption)], rfl⟩
  · exact ⟨by unfold szVf; rw [if_neg (by assumption)], rfl⟩
theorem szPair (p : Pr) (l : Int) (h : Hp) (h0 : 0 ≤ l) (h1 : l ≤ 1048576) (hk : p.key.s.size ≤ 9223372036854775807) (hv : p.val.s.size ≤ 9223372036854775807) : Pur Try.prog 106 [.ag p.sv, .v (.int .i64 l)] h (fun y : Int => .v (.int .i64 y)) (szPf p l) := by
  have g1 := szVf_le p.key.s l h0
  refine enterS Try.func106 rfl (n := 18) rfl rfl (fun k N => ?_)
  repeat (any_goals (first | refine r_seq ?_ | refine r_region ?_ | refine r_nil ?_ | refine x_then ?_ | refine r_pure hT rfl rfl rfl rfl ?_ | refine r_new hT rfl rfl rfl rfl ?_ | refine r_write hT rfl rfl rfl ?_ | refine r_ret ?_ | refine x_then_ret ?_ | refine r_skip ?_ | refine r_cond_dec rfl (fun _ => ?_) (fun _ => ?_) | refine r_arith rfl rfl rfl rfl rfl rfl rfl (by omega) ?_ | refine r_fin hT rfl _ rfl rfl rfl trivial rfl ?_ | (refine r_call (szVal p.key l _ h0 h1 hk) rfl rfl rfl rfl rfl (hC _ rfl) rfl rfl ?_; rintro y u' ⟨rfl, rfl⟩) | (refine r_call (szVal p.val (szVf p.key.s l) _ (by omega) (by omega) hv) rfl rfl rfl rfl rfl (hC _ rfl) rfl rfl ?_; rintro y u' ⟨rfl, rfl⟩)))
  all_goals (refine ⟨?_, rfl⟩; unfold szPf; simp [*])
end Go.Proofs.Ytkamfnmbidnhdaa
