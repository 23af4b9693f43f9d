/- A region's operations by what they leave behind. -/
import Derived.Test.YtmbjfekagoepgaaWc
namespace Go.Fw
section
variable {P : Program} {T : Tab} {ops : Array Oper} {os : List Oper} {d : Option Nat} {f : Vars} {h : Hp}
/-- Variables that the operations do not write. -/
def freshT (d : Option Nat) (os : List Oper) (t : Nat) : Bool := (d == some t) || os.any fun o => o.dst == some t
theorem ops_cut {Q K : Vars → Hp → Prop} {v : Value} {h' : Hp} (h1 : RunOps P T ops Q os (upd f d v) h') (h2 : ∀ f' h', Q f' h' → (∀ t, freshT d os t = false → f' t = f t) → K f' h') : RunOps P T ops K os (upd f d v) h' :=
  runOps_mono (fun f' h'' hq => h2 f' h'' hq.1 fun t ht => by
    simp only [freshT, Bool.or_eq_false_iff] at ht
    rw [hq.2 t ht.2, upd_fr ht.1]) os (runOps_fr os h1)
theorem res_cut {r : OpRes} {K : Vars → Hp → Prop} (Q : Vars → Hp → Prop) (h1 : resK P T r ops Q os d f h) (h2 : ∀ f' h', Q f' h' → (∀ t, freshT d os t = false → f' t = f t) → K f' h') : resK P T r ops K os d f h := by
  cases r with
  | pure v => exact ops_cut h1 h2
  | read i v => exact ops_cut h1 h2
  | new ob mk => exact ops_cut h1 h2
  | put i ob v => exact ops_cut h1 h2
  | app k ob mk => exact ops_cut h1 h2
  | call g vs =>
    obtain ⟨v, h', c, hr⟩ := h1
    exact ⟨v, h', c, ops_cut hr h2⟩
  | fail => exact h1
end
end Go.Fw
