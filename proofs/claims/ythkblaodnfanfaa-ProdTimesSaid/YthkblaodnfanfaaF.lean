/- 'append' onto an empty slice of the call's own, as a law for the walk; contract of the document's Norm. -/
import Derived.Test.YthkblaodnfanfaaN1
namespace Go.Proofs.Ythkblaodnfanfaa
open Go.RowKit M

theorem append_words (w : World) {ops : Array Oper} {rest : List Oper} {o : Oper} {a : Act} {Q : Exit → Act → World → Prop} (hgd : o.guard = none) (s x : Operand)
    (ho : o.op = .call { callee := .builtin .append, args := #[s, x], argTypes := #[37, 37] })
    (base : Nat) (v : Value) (A : Option Addr) (m c : Nat) (ys : List Nat) (hs : a.eval s = v) (hx : a.eval x = .slice A m c)
    (HO : w.ownsRow base 22 1 v 0 []) (hr : Rd w A m c ys) (hm : m ≤ 35184372088832) (hbase : base ≤ w.heap.size)
    (h : ∀ A1 c1 w1, Rd w1 A1 m c1 ys → (0 < m → ∃ g, A1 = some ⟨g, 0, none⟩ ∧ Own w1 base g m c1 ys) → Below base w w1 → wpList Try.prog ops Q rest (a.put o.dst (.slice A1 m c1)) w1) :
    wpList Try.prog ops Q (o :: rest) a w := by
  obtain ⟨i0, hi, hz0, hz1, hz2⟩ := info_parts info22
  have hyl := hr.len
  have hrun : ∃ v1 w1, (Builtin.append_ #[37, 37] o.type #[v, .slice A m c]).run Try.prog w = .ok v1 w1 ∧ w1.ownsRow base 22 1 v1 m (Ws ys) ∧ w.grownBy w1 v.ownBlock := by
    rcases A with _ | ad
    · have h0 : m = 0 := by
        rcases Nat.eq_zero_or_pos m with h0 | h0
        · exact h0
        · obtain ⟨ad, h, _⟩ := hr.2.2.2 h0
          cases h
      subst h0
      obtain rfl : ys = [] := List.eq_nil_of_length_eq_zero hyl
      refine ⟨v, w, ?_, HO, World.grownBy.refl w _⟩
      rcases HO.2 with ⟨rfl, hn⟩ | ⟨g, cap, cur, rfl, _, _, hnc, _⟩
      · simp [Builtin.append_, run_underlying Try.underlying37, sizeOf, typeInfo, hi, Builtin.lenOf, Builtin.firstCells]
      · simp [Builtin.append_, run_underlying Try.underlying37, sizeOf, typeInfo, hi, Builtin.lenOf, Builtin.firstCells, hnc, storeCells]
    · have hcells : ∀ j u, (Ws ys)[j]? = some u → w.cell? (ad.add j) = some u := by
        intro j u hu
        have hj : j < ys.length := by
          have := (List.getElem?_eq_some_iff.1 hu).1
          rw [Ws_length] at this
          exact this
        obtain ⟨ad', h', hc⟩ := hr.at j (by omega)
        injection h' with h'
        subst h'
        simp only [Ws, List.getElem?_map, List.getElem?_eq_getElem hj] at hu
        rw [hc, List.getD_eq_getElem?_getD, List.getElem?_eq_getElem hj]
        exact hu
      obtain ⟨v1, w1, hr1, h2, h3, _⟩ := run_append_own (P := Try.prog) w base 37 o.type 22 i0 (.int .u32 0) 1 4 Try.underlying37 hi hz0 hz1 hz2 rfl (by omega) v 0 [] HO ad m c (Ws ys) (by rw [Ws_length]; omega) hcells
        (by intro u hu; simp only [Ws, List.mem_map] at hu; obtain ⟨q, _, rfl⟩ := hu; rfl) (by simp only [maxLen]; omega) (by omega) hbase
      exact ⟨v1, w1, hr1, by simpa using h2, h3⟩
  obtain ⟨v1, w1, hrun, hown, hg⟩ := hrun
  have hb : Below base w w1 := (Below.refl base w).grown hg hbase (fun k hk => (HO.lt k hk).1)
  refine wpList_plain hgd fun K hK => ?_
  unfold Oper.wp execOp
  simp only [ho, resolve, invoke, builtin, Sem.run_bind, Sem.run_pure, Result.andThen_ok, List.map_toArray, List.map_cons, List.map_nil, hs, hx, hrun]
  have hown' := hown
  rcases hown'.2 with ⟨rfl, rfl⟩ | ⟨g, cap, cur, rfl, hb1, hh, hnc, hcm, hcs, ht⟩
  · obtain rfl : ys = [] := List.eq_nil_of_length_eq_zero hyl
    exact hK _ _ (h none 0 w1 (Rd.nil _ _ _) (fun h0 => absurd h0 (by omega)) hb)
  · have ho2 : Own w1 base g m cap ys := ⟨hyl, hr.ok, hown⟩
    exact hK _ _ (h _ cap w1 ho2.rd (fun _ => ⟨g, rfl, ho2⟩) hb)

theorem own_empty (w : World) : (w.alloc (.cells #[] 22)).ownsRow w.heap.size 22 1 (.slice (some ⟨w.heap.size, 0, none⟩) 0 0) 0 [] :=
  World.ownsRow_lit (size := 1) w #[] 0 (Nat.le_refl _) (by simp [maxLen]) rfl

set_option maxHeartbeats 1000000 in
theorem refNorm_any (A : Option Addr) (n c : Nat) (xs : List Nat) (w : World) (hr : Rd w A n c xs) (hn : n ≤ 35184372088832) :
    Calls Try.prog 52 #[.slice A n c] w (Gives w (canon (V xs))) := by
  have hle := hr.le
  go_enter Try.func52, Try.ntmps52
  go_wp2
  go_loop [3] (fun v => ∃ m : Nat, v = .int .i64 m ∧ Tops xs n m) (fun v => (intOf v).toNat)
  case atStart => exact ⟨n, rfl, Tops.start hr.len⟩
  case round =>
    obtain ⟨m, rfl, ht⟩ := hrel
    have hmn : m ≤ n := ht.1
    have hcut := cutTo A n c m hmn hle
    by_cases h0 : 0 < m
    · obtain ⟨ad, x, rfl, hc, hx, hd⟩ := hr.word (m - 1) (by omega)
      by_cases hz : x ≤ 0
      · go_wp2
        go_round
        case rel => exact ⟨m - 1, by go_num, ht.next h0 (by rw [hd.out]; omega)⟩
        case measure => simp [intOf]; omega
      · go_wp2_with (at_builtin; refine append_words _ rfl _ _ rfl w.heap.size _ (some ad) m c (xs.take m) rfl rfl (own_empty w) ((hr.take m hmn).below ((Below.refl _ _).alloc (Nat.le_refl _) _)) (by omega) (by simp) ?_; intro A1 c1 w1 hr1 _ hb1)
        go_ret
        rw [canon_take hr.ok m (by rw [hr.len]; exact hmn) ht.2 (.inr (by rw [hd.out]; omega))] at hr1
        exact Gives.mk hr1 (((Below.refl _ _).alloc (Nat.le_refl _) _).trans hb1)
    · go_wp2_with (at_builtin; refine append_words _ rfl _ _ rfl w.heap.size _ A m c (xs.take m) rfl rfl (own_empty w) ((hr.take m hmn).below ((Below.refl _ _).alloc (Nat.le_refl _) _)) (by omega) (by simp) ?_; intro A1 c1 w1 hr1 _ hb1)
      go_ret
      rw [canon_take hr.ok m (by rw [hr.len]; exact hmn) ht.2 (.inl (by omega))] at hr1
      exact Gives.mk hr1 (((Below.refl _ _).alloc (Nat.le_refl _) _).trans hb1)
end Go.Proofs.Ythkblaodnfanfaa
