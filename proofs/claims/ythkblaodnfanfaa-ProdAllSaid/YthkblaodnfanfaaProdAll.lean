/- ProdAll: the product of any numbers is as the document has it: the law returns true for every list of lists. Conditions: none; each argument reads behind the call as it read before. -/
import Derived.Test.YthkblaodnfanfaaR
import Derived.Test.YthkblaodnfanfaaPW5
import Derived.Test.YthkblaodnfanfaaR2
namespace Go.Proofs.Ythkblaodnfanfaa.prodAll
open Go.ChangeShapes Go.WideShapes Go.ChangeAt Go.RowKit Go.Joins M
set_option linter.unusedVariables false
set_option linter.unusedSimpArgs false
set_option maxRecDepth 100000 in
theorem lifted (os : Os) (started : os.Started) (H : Type) (enc : TypeId × Value → H) :
    ReturnsInHanded {} Try.checked os 18 .any (Rows.prodAllSpec.pre6 enc Try.prog Try.f18 Rows.prodAllRow.domain false) (Rows.prodAllSpec.post enc Try.prog Try.f18 false true false false) := by
  refine returnsInHanded_of_change_sized (C := Try.checked) own started (by kernel_rfl) Try.func18
    (ChangeSpec.witness6 (enc := enc) (C := Try.checked) false ⟨#[], #[.slice none 0 0], []⟩ 8 (by kernel_rfl) (by kernel_rfl) (by kernel_rfl) (by kernel_rfl)) ?_
  intro W base args ds gs before hval0 hW hcnd hsz0 _
  have hval : ∀ (j : Nat) t v, Try.f18.params[j]? = some t → args[j]? = some v → Value.okWide Try.prog W .any base t v := hval0
  have hW' := hW
  obtain ⟨p, q, hA0, hV, rfl, hfz, hnd⟩ := hW
  have hA : DataW.TrodAll enc Try.prog W 0 (fun _ => true) true Try.f18.params.toList args.toList ds p := hA0
  rw [Try.params18] at hA hval
  obtain ⟨v0, vs0, d0, ds0, p0, q0, hargs, rfl, rfl, h0, r0⟩ := trodAll_cons hA
  obtain ⟨rfl, rfl, rfl⟩ := trodAll_nil r0
  obtain rfl : args = #[v0] := by cases args; simp_all
  obtain ⟨rfl, rfl⟩ := trodVars_none hV
  have k0 := h0
  have lt0 : ∀ x ∈ p0, x.block < W.heap.size := by obtain ⟨m, hm⟩ := k0; exact DataW.trod_lt m _ _ _ hm
  obtain ⟨a0, len0, cap0, xs0, rfl, y0⟩ := open_lists (hval 0 40 v0 rfl rfl) h0
  clear hA0 hval0 hsz0
  refine (prodAll_any a0 len0 cap0 xs0 W y0).mono fun e W' ⟨he, bel⟩ => ?_
  subst he
  exact ⟨_, rfl, _, _, _, [], _, [], hW', trodAll_mk1 (shut_bool Try.underlying4 _), (trodAll_cons_mk (Below.trod laidOut (by kernel_rfl) (of_decide_eq_true (by kernel_rfl)) k0 bel lt0) trodAll_mk0), rfl, bel.frame _, fun h => by cases h⟩
theorem over : Rows.prodAllRow.holds Try.pinned (OpenSpec.ofChange Rows.prodAllSpec) :=
  OpenClaim.holds_of_wide 18 Try.f18 rfl rfl rfl rfl rfl rfl rfl ⟨rfl, rfl, rfl, rfl, rfl⟩ rfl rfl rfl rfl rfl (by kernel_rfl) Try.func18 (by kernel_rfl)
    (of_decide_eq_true (by kernel_rfl)) (by unfold Func.isWrapper; rw [if_neg (of_decide_eq_false (by kernel_rfl))]; exact ⟨rfl, rfl⟩)
    (fun os started H enc _ => lifted os started H enc)
theorem proved : Rows.ProdAllSaid := over
#print axioms proved
end Go.Proofs.Ythkblaodnfanfaa.prodAll
namespace Go.Proofs.Ythkblaodnfanfaa
/-- The row, under a short name, for the claim. -/
theorem prodAll_holds : Rows.ProdAllSaid := prodAll.proved
end Go.Proofs.Ythkblaodnfanfaa

