/- LimbBack: what is added to a word is taken away again, and what is divided comes back: the law returns true for all words. Conditions: none; each argument reads behind the call as it read before. -/
import Derived.Test.YthkblaodnfanfaaR
import Derived.Test.YthkblaodnfanfaaLW
namespace Go.Proofs.Ythkblaodnfanfaa.limbBack
open Go.ChangeShapes Go.WideShapes Go.ChangeAt Go.RowKit Go.Joins M
set_option linter.unusedVariables false
set_option linter.unusedSimpArgs false
set_option maxRecDepth 100000 in
theorem lifted (os : Os) (started : os.Started) (H : Type) (enc : TypeId × Value → H) :
    ReturnsInHanded {} Try.checked os 6 .any (Rows.limbBackSpec.pre6 enc Try.prog Try.f6 Rows.limbBackRow.domain false) (Rows.limbBackSpec.post enc Try.prog Try.f6 false true false false) := by
  refine returnsInHanded_of_change_sized (C := Try.checked) own started (by kernel_rfl) Try.func6
    (ChangeSpec.witness6 (enc := enc) (C := Try.checked) false ⟨#[], #[.agg #[.int .u32 0, .int .u32 0, .int .u32 0, .int .u32 0]], []⟩ 8 (by kernel_rfl) (by kernel_rfl) (by kernel_rfl) (by kernel_rfl)) ?_
  intro W base args ds gs before hval0 hW hcnd hsz0 _
  have hval : ∀ (j : Nat) t v, Try.f6.params[j]? = some t → args[j]? = some v → Value.okWide Try.prog W .any base t v := hval0
  have hW' := hW
  obtain ⟨p, q, hA0, hV, rfl, hfz, hnd⟩ := hW
  have hA : DataW.TrodAll enc Try.prog W 0 (fun _ => true) true Try.f6.params.toList args.toList ds p := hA0
  rw [Try.params6] at hA hval
  obtain ⟨v0, vs0, d0, ds0, p0, q0, hargs, rfl, rfl, h0, r0⟩ := trodAll_cons hA
  obtain ⟨rfl, rfl, rfl⟩ := trodAll_nil r0
  obtain rfl : args = #[v0] := by cases args; simp_all
  obtain ⟨rfl, rfl⟩ := trodVars_none hV
  obtain ⟨c0, c1, c2, c3, x0, x1, x2, x3, m, rfl, rfl, rfl, hx0, hx1, hx2, hx3⟩ := open_agg4 Try.underlying30 (by kernel_rfl) (by kernel_rfl) (hval 0 30 v0 rfl rfl) h0
  obtain ⟨b0, e0, rfl, u0⟩ := DataW.trod_int Try.underlying22 hx0
  obtain ⟨b1, e1, rfl, u1⟩ := DataW.trod_int Try.underlying22 hx1
  obtain ⟨b2, e2, rfl, u2⟩ := DataW.trod_int Try.underlying22 hx2
  obtain ⟨b3, e3, rfl, u3⟩ := DataW.trod_int Try.underlying22 hx3
  simp at e0 e1 e2 e3
  subst e0 e1 e2 e3
  obtain ⟨g0, rfl, t0⟩ := word_of u0
  obtain ⟨g1, rfl, t1⟩ := word_of u1
  obtain ⟨g2, rfl, t2⟩ := word_of u2
  obtain ⟨g3, rfl, t3⟩ := word_of u3
  have structReads : ∀ (W' : World) (sp : Nat → Bool), DataW.Trod enc Try.prog W' 0 sp true 30 (.agg #[.int .u32 g0, .int .u32 g1, .int .u32 g2, .int .u32 g3]) (.agg [.lit (.int .u32 g0), .lit (.int .u32 g1), .lit (.int .u32 g2), .lit (.int .u32 g3)]) [] := fun W' sp =>
    shut_agg4 (y0 := (.lit (.int .u32 g0), [])) (y1 := (.lit (.int .u32 g1), [])) (y2 := (.lit (.int .u32 g2), [])) (y3 := (.lit (.int .u32 g3), [])) Try.underlying30 (by kernel_rfl) (by kernel_rfl) ⟨1, by simp [DataW.trod, Try.underlying22, u0]⟩ ⟨1, by simp [DataW.trod, Try.underlying22, u1]⟩ ⟨1, by simp [DataW.trod, Try.underlying22, u2]⟩ ⟨1, by simp [DataW.trod, Try.underlying22, u3]⟩
  clear hA0 hval0 hsz0
  refine (limbBack_any g0 g1 g2 g3 W t0 t1 t2 t3).mono fun e W' ⟨he, bel⟩ => ?_
  subst he
  exact ⟨_, rfl, _, _, _, [], _, [], hW', trodAll_mk1 (shut_bool Try.underlying4 _), (trodAll_cons_mk (structReads _ _) trodAll_mk0), rfl, bel.frame _, fun h => by cases h⟩
theorem over : Rows.limbBackRow.holds Try.pinned (OpenSpec.ofChange Rows.limbBackSpec) :=
  OpenClaim.holds_of_wide 6 Try.f6 rfl rfl rfl rfl rfl rfl rfl ⟨rfl, rfl, rfl, rfl, rfl⟩ rfl rfl rfl rfl rfl (by kernel_rfl) Try.func6 (by kernel_rfl)
    (of_decide_eq_true (by kernel_rfl)) (by unfold Func.isWrapper; rw [if_neg (of_decide_eq_false (by kernel_rfl))]; exact ⟨rfl, rfl⟩)
    (fun os started H enc _ => lifted os started H enc)
theorem proved : Rows.LimbBackSaid := over
#print axioms proved
end Go.Proofs.Ythkblaodnfanfaa.limbBack
namespace Go.Proofs.Ythkblaodnfanfaa
/-- The row, under a short name, for the claim. -/
theorem limbBack_holds : Rows.LimbBackSaid := limbBack.proved
end Go.Proofs.Ythkblaodnfanfaa

