/- 'copy' into a row of the call's own, as a law for the walk; contracts of nat.fresh, nat.Norm, nat.Of, nat.Zero. -/
import Derived.Test.YthkblaodnfanfaaNa
namespace Go.Proofs.Ythkblaodnfanfaa
open Go.RowKit M

theorem copy_words (w : World) {ops : Array Oper} {rest : List Oper} {o : Oper} {a : Act} {Q : Exit → Act → World → Prop} (hgd : o.guard = none) (d s : Operand)
    (ho : o.op = .call { callee := .builtin .copy, args := #[d, s], argTypes := #[37, 37] })
    (base g nd cd : Nat) (ys : List Nat) (A : Option Addr) (n c : Nat) (xs : List Nat) (hd : a.eval d = .slice (some ⟨g, 0, none⟩) nd cd) (hs : a.eval s = .slice A n c)
    (hown : Own w base g nd cd ys) (hr : Rd w A n c xs) (hle : n ≤ nd)
    (h : ∀ w', Own w' base g nd cd (xs ++ ys.drop n) → Below base w w' → wpList Try.prog ops Q rest (a.put o.dst (goInt n)) w') : wpList Try.prog ops Q (o :: rest) a w := by
  obtain ⟨hyl, hyok, hyo⟩ := hown
  obtain ⟨hl1, h2⟩ := hyo
  rcases h2 with ⟨e, _⟩ | ⟨g', cap, cur, e, hb, hh, hnc, hcm, hcs, htake⟩
  · cases e
  · simp only [Value.slice.injEq, Option.some.injEq, Addr.mk.injEq, and_true, true_and] at e
    obtain ⟨rfl, rfl⟩ := e
    have hxl := hr.len
    have hsz : (Try.prog.info? 22).map (·.size) = some 1 := by
      obtain ⟨i, hi, _, h3, _⟩ := info_parts info22
      rw [hi]; simp [h3]
    have hcl : cur.toList.length = cd := by rw [Array.length_toList, hcs]; omega
    have hws : (Ws xs).length = n := by rw [Ws_length, hxl]
    have hmin : Nat.min n nd = n := Nat.min_eq_left hle
    refine wpList_copy_splice hgd d s 37 37 ho 22 Try.underlying37 hsz _ _ nd cd n c hd hs g 0 cur.toList 22 (by simpa using hh) (Ws xs) (by rw [hws, hmin]) ?_ (by omega) ?_ base w (Below.refl _ _) hb ?_
    · intro hpos
      obtain ⟨ad, hA, hc⟩ := hr.2.2.2 (by omega)
      refine ⟨rfl, ad, hA, fun j v hj => ?_⟩
      have hj' : j < n := by
        have := (List.getElem?_eq_some_iff.1 hj).1
        omega
      rw [hc j hj']
      simp only [Ws, List.getElem?_map, List.getD_eq_getElem?_getD, List.getElem?_eq_getElem (show j < xs.length by omega)] at hj ⊢
      exact hj
    · intro v hv
      obtain ⟨x, _, rfl⟩ := List.mem_map.1 hv
      rfl
    · intro w' hg' hb'
      have hg2 := hg'.out
      rw [hws]
      refine h w' ⟨by rw [List.length_append, List.length_drop]; omega, hr.ok.append (hyok.drop n), ?_⟩ hb'
      refine ⟨by rw [Ws_length, List.length_append, List.length_drop]; omega, .inr ⟨g, cd, _, rfl, hb, hg2, hnc, hcm, ?_, ?_⟩⟩
      · rw [List.size_toArray, length_splice _ _ _ (by omega), hcl]; omega
      · have e1 : Ws (xs ++ ys.drop n) = Ws xs ++ (Ws ys).drop n := by simp [Ws, List.map_drop]
        rw [e1, ← htake]
        show (splice cur.toList 0 (Ws xs)).take (nd * 1) = _
        unfold splice
        rw [List.take_zero, List.nil_append, Nat.zero_add, hws, List.take_append, hws, List.take_of_length_le (by omega), List.drop_take]

/-- What fresh hands back: a row of its own. -/
def Fresh (w : World) (n : Nat) (zs : List Nat) (e : Ending) (w' : World) : Prop :=
  ∃ g, e = .returned (.slice (some ⟨g, 0, none⟩) n n) ∧ Own w' w.heap.size g n n zs ∧ Below w.heap.size w w'

set_option maxHeartbeats 400000 in
theorem fresh_any (A : Option Addr) (n c m : Nat) (xs : List Nat) (w : World) (hr : Rd w A n c xs) (hn : n ≤ 35184372088832) (hm : m ≤ 1) :
    Calls Try.prog 73 #[.slice A n c, .int .i64 m] w (Fresh w (n + m) (xs ++ List.replicate m 0)) := by
  go_enter Try.func73, Try.ntmps73
  go_wp2_with (first
    | (at_make; refine make_words _ rfl _ _ rfl _ (n + m) rfl rfl (by omega) (by omega) ?_; intro g w1 hown hb)
    | (with_reducible refine copy_words _ rfl _ _ rfl w.heap.size _ _ _ _ A n c xs rfl rfl hown (hr.below hb) (by omega) ?_; intro w2 hown2 hb2))
  go_ret
  refine ⟨g, rfl, ?_, hb.trans hb2⟩
  rw [List.drop_replicate, Nat.add_sub_cancel_left] at hown2
  exact hown2
end Go.Proofs.Ythkblaodnfanfaa
