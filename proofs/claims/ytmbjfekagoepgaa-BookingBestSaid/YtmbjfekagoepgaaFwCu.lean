/- A guarded operation, and those behind it, by what they leave behind. -/
import Derived.Test.YtmbjfekagoepgaaFwCt
namespace Go.Fw
section
variable {P : Program} {T : Tab} {ops : Array Oper} {os : List Oper} {d : Option Nat} {f : Vars} {h : Hp}
theorem guard_cut {g : Option Bool} {op : Op} {K : Vars → Hp → Prop} (Q : Vars → Hp → Prop) (h1 : guardK P T g op ops Q os d f h) (h2 : ∀ f' h', Q f' h' → (∀ t, freshT d os t = false → f' t = f t) → K f' h') : guardK P T g op ops K os d f h := by
  cases g with
  | none => exact h1
  | some b => cases b with
    | true => exact res_cut Q h1 h2
    | false => exact ops_cut h1 h2
end
end Go.Fw
