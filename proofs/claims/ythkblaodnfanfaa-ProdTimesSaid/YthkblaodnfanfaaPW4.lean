/- The law ProdTimes, walked. -/
import Derived.Test.YthkblaodnfanfaaJ
import Derived.Deep.RegionHeld3
namespace Go.Proofs.Ythkblaodnfanfaa
open Go.RowKit M

abbrev one (x : Nat) : Obj := .cells #[.int .u32 (x : Int)] 22
theorem rdx1 (W : World) (x : Nat) (hx : x < 4294967296) : Rd (W.alloc (one x)).drew (some ⟨W.heap.size, 0, none⟩) 1 1 [x] := rd_lit1 W x hx
theorem rdx2 (W : World) (x y : Nat) (hx : x < 4294967296) : Rd ((W.alloc (one x)).alloc (one y)).drew (some ⟨W.heap.size, 0, none⟩) 1 1 [x] := (rd_lit1 W x hx).below (below_new _ _).drew
theorem rdx3 (W : World) (x y : Nat) (hx : x < 4294967296) : Rd ((W.alloc (one y)).alloc (one x)).drew (some ⟨W.heap.size + 1, 0, none⟩) 1 1 [x] := by
  have h := rd_lit1 (W.alloc (one y)) x hx
  have e : (W.alloc (one y)).heap.size = W.heap.size + 1 := by simp
  rw [e] at h
  exact h
theorem rdy2 (W : World) (x y : Nat) (hy : y < 4294967296) : Rd ((W.alloc (one x)).alloc (one y)).drew (some ⟨W.heap.size + 1, 0, none⟩) 1 1 [y] := rdx3 W y x hy
theorem bel1 (W : World) (o : Obj) : Below W.heap.size W (W.alloc o).drew := (below_new _ _).drew
theorem bel2 (W : World) (o p : Obj) : Below W.heap.size W ((W.alloc o).alloc p).drew := (below_next (below_new _ _) (below_new _ _)).drew

/-- What stands behind the first statement, on every order of it. -/
def WordLaid (w w2 : World) (A2 : Option Addr) (n2 c2 v : Nat) (x y : Nat) : Prop :=
  Below w.heap.size w w2 ∧ Rd w2 A2 n2 c2 (canon v) ∧ w2.cell? ⟨w.heap.size, 0, none⟩ = some (.int .u32 (x : Int)) ∧ w2.cell? ⟨w.heap.size, 1, none⟩ = some (.int .u32 (y : Int))
theorem WordLaid.mk {w W1 w2 : World} {A2 : Option Addr} {n2 c2 u x y : Nat} {xs : List Nat} (hb : Below w.heap.size w W1) (b2 : Below W1.heap.size W1 w2) (h : Rd w2 A2 n2 c2 (canon u)) (hu : u = V xs * x + y)
    (h0 : W1.cell? ⟨w.heap.size, 0, none⟩ = some (.int .u32 (x : Int)) ∧ W1.cell? ⟨w.heap.size, 1, none⟩ = some (.int .u32 (y : Int))) : WordLaid w w2 A2 n2 c2 (V xs * x + y) x y := by
  rw [hu] at h
  exact ⟨below_next hb b2, h, cell_below b2 h0.1, cell_below b2 h0.2⟩
theorem word_val (xs : List Nat) (x y : Nat) : V (canon (V xs * V [x])) + V [y] = V xs * x + y := by rw [V_canon, V_single, V_single]

theorem word_lt {w : World} {A : Option Addr} {n c M x y : Nat} {xs : List Nat} (hr : Rd w A n c xs) (hn : n ≤ M) (hx : x < 4294967296) (hy : y < 4294967296) : V xs * x + y < 4294967296 ^ (M + 1 + 1) := by
  have h1 := V_lt_of_len hr hn
  have h2 : V xs * x ≤ V xs * 4294967296 := Nat.mul_le_mul_left _ (by omega)
  rw [Nat.pow_succ, Nat.pow_succ]
  omega

set_option maxHeartbeats 4000000 in
theorem prodTimes_any (A : Option Addr) (n c : Nat) (xs : List Nat) (B : Option Addr) (k d : Nat) (ys : List Nat) (x y : Nat) (w : World) (hr : Rd w A n c xs) (hs : Rd w B k d ys) (hx : x < 4294967296) (hy : y < 4294967296) :
    Calls Try.prog 17 #[.slice A n c, .slice B k d, .agg #[.int .u32 x, .int .u32 y]] w fun e w' => e = .returned (.bool true) ∧ Below w.heap.size w w' := by
  by_cases hn : n ≤ 100
  · by_cases hk : k ≤ 100
    · have hb0 : Below w.heap.size w (w.alloc (.cells #[.int .u32 (x : Int), .int .u32 (y : Int)] 62)) := below_new _ _
      have hc0 : (w.alloc (.cells #[.int .u32 (x : Int), .int .u32 (y : Int)] 62)).cell? ⟨w.heap.size, 0, none⟩ = some (.int .u32 (x : Int)) := by
        rw [← add_plain, cell_new]; rfl
      have hc1 : (w.alloc (.cells #[.int .u32 (x : Int), .int .u32 (y : Int)] 62)).cell? ⟨w.heap.size, 1, none⟩ = some (.int .u32 (y : Int)) := by
        rw [← add_plain, cell_new]; rfl
      have hr0 := hr.below hb0
      have hs0 := hs.below hb0
      have hmul : V xs * V [x] < 4294967296 ^ (100 + 1) := mul_lt (V_lt_of_len hr hn) (by rw [V_single]; omega)
      go_enter Try.func17, Try.ntmps17
      go_wp2_with fail
      generalize w.alloc (.cells #[.int .u32 (x : Int), .int .u32 (y : Int)] 62) = W0 at hb0 hc0 hc1 hr0 hs0 ⊢
      go_region_held3 (fun w' => w'.cell? ⟨w.heap.size, 0, none⟩ = some (.int .u32 (x : Int)) ∧ w'.cell? ⟨w.heap.size, 1, none⟩ = some (.int .u32 (y : Int)))
        (first | go_keep | exact ⟨LD.2.2.1, LD.2.2.2⟩ | exact ⟨cell_below b1 (And.left (by assumption)), cell_below b1 (And.right (by assumption))⟩)
        (first
          | (go_at_call 68; (with_reducible refine (refMul2_any A _ n c _ _ xs [x] _ (hr0.below (bel1 _ _)) (rdx1 W0 x hx) (by omega) (by omega)).mono ?_); rintro e w1 ⟨A1, n1, c1, rfl, h1, b1⟩; have m1 := len_canon h1 hmul)
          | (go_at_call 68; (with_reducible refine (refMul2_any A _ n c _ _ xs [x] _ (hr0.below (bel2 _ _ _)) (rdx2 W0 x y hx) (by omega) (by omega)).mono ?_); rintro e w1 ⟨A1, n1, c1, rfl, h1, b1⟩; have m1 := len_canon h1 hmul)
          | (go_at_call 68; (with_reducible refine (refMul2_any A _ n c _ _ xs [x] _ (hr0.below (bel2 _ _ _)) (rdx3 W0 x y hx) (by omega) (by omega)).mono ?_); rintro e w1 ⟨A1, n1, c1, rfl, h1, b1⟩; have m1 := len_canon h1 hmul)
          | (go_at_call 37; (with_reducible refine (refAdd2_any _ _ _ _ _ _ _ _ _ (h1.below (below_new _ _)) (rd_lit1 w1 y hy) (by omega) (by omega)).mono ?_); rintro e w2 ⟨A2, n2, c2, rfl, h2, b2⟩; have LD := WordLaid.mk (below_next hb0 (below_next (bel1 _ _) (below_next b1 (below_new _ _)))) b2 h2 (word_val xs x y) (by assumption))
          | (go_at_call 37; (with_reducible refine (refAdd2_any _ _ _ _ _ _ _ _ _ h1 ((rdy2 W0 x y hy).below b1) (by omega) (by omega)).mono ?_); rintro e w2 ⟨A2, n2, c2, rfl, h2, b2⟩; have LD := WordLaid.mk (below_next hb0 (below_next (bel2 _ _ _) b1)) b2 h2 (word_val xs x y) (by assumption))
          | (go_at_call 37; (with_reducible refine (refAdd2_any _ _ _ _ _ _ _ _ _ h1 ((rdx2 W0 y x hy).below b1) (by omega) (by omega)).mono ?_); rintro e w2 ⟨A2, n2, c2, rfl, h2, b2⟩; have LD := WordLaid.mk (below_next hb0 (below_next (bel2 _ _ _) b1)) b2 h2 (word_val xs x y) (by assumption)))
      all_goals
        clear h1 b1 m1 h2 b2 hc0 hc1 hr0 hs0 hb0
        obtain ⟨g2, h2, k0, k1⟩ := LD
        have HM := Lib.hid (mul_lt (V_lt_of_len hr hn) (V_lt_of_len hs hk))
        have HQ := Lib.hid (mul_lt (V_lt_of_len hr hn) (V_lt_of_len hr hn))
        have HW := Lib.hid (word_lt hr hn hx hy)
        clear hmul
        go_wp2_with fail
        refine (mul_any _ _ _ _ _ _ _ _ _ (hr.below g2) (hs.below g2) (by omega) (by omega)).mono ?_
        rintro e w3 ⟨A3, n3, c3, rfl, h3, b3⟩
        have m3 : n3 ≤ 100 + 100 := len_canon h3 HM.out
        have g3 := below_next g2 b3
        go_wp2_with fail
        refine (refMul2_any _ _ _ _ _ _ _ _ _ (hr.below g3) (hs.below g3) (by omega) (by omega)).mono ?_
        rintro e w4 ⟨A4, n4, c4, rfl, h4, b4⟩
        have g4 := below_next g3 b4
        go_wp2_with fail
        refine (same_any _ _ _ _ _ _ _ _ _ (h3.below b4) h4 (by omega)).mono ?_
        rw [sameB_self]
        rintro e w5 ⟨rfl, d5⟩
        have g5 := below_next g4 d5.below
        go_wp2_with fail
        refine (square_any _ _ _ _ _ (hr.below g5) (by omega)).mono ?_
        rintro e w6 ⟨A6, n6, c6, rfl, h6, b6⟩
        have m6 : n6 ≤ 100 + 100 := len_canon h6 HQ.out
        have g6 := below_next g5 b6
        go_wp2_with fail
        refine (refMul2_any _ _ _ _ _ _ _ _ _ (hr.below g6) (hr.below g6) (by omega) (by omega)).mono ?_
        rintro e w7 ⟨A7, n7, c7, rfl, h7, b7⟩
        have g7 := below_next g6 b7
        go_wp2_with fail
        refine (same_any _ _ _ _ _ _ _ _ _ (h6.below b7) h7 (by omega)).mono ?_
        rw [sameB_self]
        rintro e w8 ⟨rfl, d8⟩
        have g8 := below_next g7 d8.below
        have far : Below w2.heap.size w2 w8 := below_next (below_next (below_next (below_next (below_next b3 b4) d5.below) b6) b7) d8.below
        have j0 := cell_below far k0
        have j1 := cell_below far k1
        go_wp2_with fail
        refine (word_any _ _ _ _ x y _ (hr.below g8) (by omega) hx hy).mono ?_
        rintro e w9 ⟨A9, n9, c9, rfl, h9, b9⟩
        have m9 : n9 ≤ 100 + 1 + 1 := len_canon h9 HW.out
        go_wp2_with fail
        refine (same_any _ _ _ _ _ _ _ _ _ h9 ((h2.below far).below b9) (by omega)).mono ?_
        rw [sameB_self]
        rintro e w10 ⟨rfl, d10⟩
        have g10 := below_next (below_next g8 b9) d10.below
        go_wp2_with fail
        refine (works4 _).mono ?_
        rintro e w11 ⟨rfl, b11⟩
        go_wp2
        go_ret
        exact ⟨rfl, below_next g10 b11⟩
    · go_enter Try.func17, Try.ntmps17
      go_wp2_with fail
      refine (works4 _).mono ?_
      rintro e w3 ⟨rfl, b3⟩
      go_wp2
      go_ret
      exact ⟨rfl, below_next (below_new _ _) b3⟩
  · go_enter Try.func17, Try.ntmps17
    go_wp2_with fail
    refine (works4 _).mono ?_
    rintro e w3 ⟨rfl, b3⟩
    go_wp2
    go_ret
    exact ⟨rfl, below_next (below_new _ _) b3⟩
end Go.Proofs.Ythkblaodnfanfaa
