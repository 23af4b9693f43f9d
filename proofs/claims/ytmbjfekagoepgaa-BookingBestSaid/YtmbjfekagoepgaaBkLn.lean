/- BookingBest: for every input the law returns true; each argument reads behind the call as it read before. No condition. -/
import Derived.Test.YtmbjfekagoepgaaBkRw
import Derived.Test.YtmbjfekagoepgaaDkL
import Derived.Test.YtmbjfekagoepgaaRows
import Derived.WalkKit
import Derived.ProofKit
import Derived.OpenShut
import Derived.ChangeOld
import Derived.Below
import Derived.Carry
import Derived.SizedLaws
set_option linter.unusedVariables false
set_option linter.unusedSimpArgs false
open Go Go.Fw Go.ChangeShapes Go.WideShapes Go.Deep Go.RowKit Go.Joins Go.ChangeAt
namespace Go.Proofs.Ytmbjfekagoepgaa
set_option maxRecDepth 100000
theorem bookingBest_lifted (os : Os) (started : os.Started) (H : Type) (enc : TypeId × Value → H) :
    ReturnsInHanded {} Try.checked os 16 .any (Rows.bookingBestSpec.pre6 enc Try.prog Try.f16 Rows.bookingBestRow.domain false) (Rows.bookingBestSpec.post enc Try.prog Try.f16 false true false false) := by
  refine returnsInHanded_of_change_sized (C := Try.checked) bk_own started (by kernel_rfl) Try.func16
    (ChangeSpec.witness6 (enc := enc) (C := Try.checked) false ⟨#[], #[.agg #[.slice none 0 0, .slice none 0 0, .int .i64 0], .slice none 0 0, .agg #[.slice none 0 0, .slice none 0 0]], []⟩ 8 (by kernel_rfl) (by kernel_rfl) (by kernel_rfl) (by kernel_rfl)) ?_
  intro W base args ds gs before hval0 hW hcnd hsz0 _
  have hval : ∀ (j : Nat) t v, Try.f16.params[j]? = some t → args[j]? = some v → Value.okWide Try.prog W .any base t v := hval0
  have hW' := hW
  obtain ⟨p, q, hA0, hV, rfl, hfz, hnd⟩ := hW
  have hA : DataW.TrodAll enc Try.prog W 0 (fun _ => true) true Try.f16.params.toList args.toList ds p := hA0
  rw [show Try.f16.params.toList = [25, 26, 70] by kernel_rfl] at hA
  obtain ⟨v0, vs0, d0, ds0, p0, q0, hargs, rfl, rfl, h0, r0⟩ := trodAll_cons hA
  obtain ⟨v1, vs1, d1, ds1, p1, q1, rfl, rfl, rfl, h1, r1⟩ := trodAll_cons r0
  obtain ⟨v2, vs2, d2, ds2, p2, q2, rfl, rfl, rfl, h2, r2⟩ := trodAll_cons r1
  obtain ⟨rfl, rfl, rfl⟩ := trodAll_nil r2
  obtain rfl : args = #[v0, v1, v2] := by cases args; simp_all
  obtain ⟨rfl, rfl⟩ := trodVars_none hV
  have lt0 : ∀ x ∈ p0, x.block < W.heap.size := by obtain ⟨m, hm⟩ := h0; exact DataW.trod_lt m _ _ _ hm
  have lt1 : ∀ x ∈ p1, x.block < W.heap.size := by obtain ⟨m, hm⟩ := h1; exact DataW.trod_lt m _ _ _ hm
  have lt2 : ∀ x ∈ p2, x.block < W.heap.size := by obtain ⟨m, hm⟩ := h2; exact DataW.trod_lt m _ _ _ hm
  obtain ⟨cv0, mv0, s0, hv0, hk0, hl0⟩ := open_house (hval 0 25 v0 (by kernel_rfl) rfl) h0
  obtain ⟨l1, hp1⟩ := open_bks (hval 1 26 v1 (by kernel_rfl) rfl) h1
  obtain ⟨va2, vb2, x2, y2, hv2, hx2, hy2⟩ := open_pick (hval 2 70 v2 (by kernel_rfl) rfl) h2
  subst hv0 hv2
  have key : Calls Try.prog 16 #[.agg #[cv0, mv0, I s0.cake], v1, .agg #[va2, vb2]] W fun e W' => e = .returned (.bool true) ∧ Below W.heap.size W W' := by
    obtain ⟨h, ρ, A, hr, hA⟩ := args_heap W 5 (fun i => [cv0, mv0, v1, va2, vb2].getD i U) (fun i => [4, 3, 6, 1, 1].getD i 0) (fun i => [s0.chambers.length, s0.masters.length, l1.length, x2.length, y2.length].getD i 0) (fun i => [s0.chambers.flatMap Chamber.cells, s0.masters.flatMap Master.cells, l1.flatMap Bkg.cells, x2.map I, y2.map I].getD i [])
      (fun i hi => by match i, hi with | 0, _ => simp | 1, _ => simp | 2, _ => simp | 3, _ => simp | 4, _ => simp) (fun i hi => by match i, hi with | 0, _ => exact hk0 | 1, _ => exact hl0 | 2, _ => exact hp1 | 3, _ => exact hx2 | 4, _ => exact hy2)
    obtain ⟨a0, b0⟩ := hA 0 (by omega)
    obtain ⟨a1, b1⟩ := hA 1 (by omega)
    obtain ⟨a2, b2⟩ := hA 2 (by omega)
    obtain ⟨a3, b3⟩ := hA 3 (by omega)
    obtain ⟨a4, b4⟩ := hA 4 (by omega)
    refine law_calls hr ?_ (best16 ⟨b0, b1⟩ b2 b3 b4)
    refine arel_list rfl fun i h1 h2 => ?_
    match i, h1 with
    | 0, _ => exact .agg rfl (arel_list (xs := [A 0, A 1, I s0.cake]) (ys := [cv0, mv0, I s0.cake]) rfl fun i h1 h2 => by match i, h1 with | 0, _ => exact a0 | 1, _ => exact a1 | 2, _ => exact .flat rfl).2
    | 1, _ => exact a2
    | 2, _ => exact .agg rfl (arel_list (xs := [A 3, A 4]) (ys := [va2, vb2]) rfl fun i h1 h2 => by match i, h1 with | 0, _ => exact a3 | 1, _ => exact a4).2
  refine key.mono fun e W' ⟨he, bel⟩ => ?_
  subst he
  exact ⟨_, rfl, _, _, _, [], _, [], hW', trodAll_mk1 (shut_bool u4 _),
    (trodAll_cons_mk (Below.trod bk_laidOut (by kernel_rfl) (of_decide_eq_true (by kernel_rfl)) h0 bel lt0) (trodAll_cons_mk (Below.trod bk_laidOut (by kernel_rfl) (of_decide_eq_true (by kernel_rfl)) h1 bel lt1) (trodAll_cons_mk (Below.trod bk_laidOut (by kernel_rfl) (of_decide_eq_true (by kernel_rfl)) h2 bel lt2) trodAll_mk0))),
    rfl, bel.frame _, fun h => by cases h⟩
theorem bookingBest_over : Rows.bookingBestRow.holds Try.pinned (OpenSpec.ofChange Rows.bookingBestSpec) :=
  OpenClaim.holds_of_wide 16 Try.f16 rfl rfl rfl rfl rfl rfl rfl ⟨rfl, rfl, rfl, rfl, rfl⟩ rfl rfl rfl rfl rfl (by kernel_rfl) Try.func16 (by kernel_rfl)
    (of_decide_eq_true (by kernel_rfl)) (by unfold Func.isWrapper; first | (rw [if_pos (by decide +kernel)]; kernel_rfl) | (rw [if_neg (by decide +kernel)]; exact ⟨rfl, rfl⟩))
    (fun os started H enc _ => bookingBest_lifted os started H enc)
theorem bookingBest_holds : Rows.BookingBestSaid := bookingBest_over
#print axioms bookingBest_holds
end Go.Proofs.Ytmbjfekagoepgaa
