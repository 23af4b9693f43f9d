/- A choice of two codes, by what it leaves behind. -/
import Derived.Test.YtmbjfekagoepgaaFwCu
namespace Go.Fw
section
variable {P : Program} {T : Tab} {N : Nat} {K : Exit → Vars → Hp → Prop} {S : List Fr} {f : Vars} {h : Hp}
theorem cond_cut {v : Value} {c d : Code} (W : List Nat) (hW : (wrs c W && wrs d W) = true) (Q : Vars → Hp → Prop) (h1 : condK P T N v c d (pop P T N (OnlyN Q) []) f h)
    (h2 : ∀ f' h', Q f' h' → (∀ t, t ∉ W → f' t = f t) → pop P T N K S .normal f' h') : condK P T N v c d (pop P T N K S) f h := by
  rw [Bool.and_eq_true] at hW
  cases v with
  | bool b =>
    cases b with
    | true => exact run_cut W hW.1 Q h1 h2
    | false => exact run_cut W hW.2 Q h1 h2
  | _ => exact h1
end
end Go.Fw
