/- Contracts of the document's answer for layer 2: Of, At, Cmp, Same, Long. -/
import Derived.Test.YthkblaodnfanfaaF
import Derived.Test.YthkblaodnfanfaaN3
namespace Go.Proofs.Ythkblaodnfanfaa
open Go.RowKit M

def mxI (a b : Int) : Int := if a < b then b else a
def mnI (a b : Int) : Int := if b < a then b else a
theorem max_ints (ts : Array TypeId) (ty : TypeId) (k k' : IntKind) (x y : Int) : Builtin.max_ ts ty #[.int k x, .int k' y] = pure (.int k (mxI x y)) := by
  simp only [Builtin.max_, List.foldlM_cons, List.foldlM_nil, Builtin.max2, mxI, gt_iff_lt, pure_bind]
theorem min_ints (ts : Array TypeId) (ty : TypeId) (k k' : IntKind) (x y : Int) : Builtin.min_ ts ty #[.int k x, .int k' y] = pure (.int k (mnI x y)) := by
  simp only [Builtin.min_, List.foldlM_cons, List.foldlM_nil, Builtin.min2, mnI, pure_bind]
attribute [local go_sem] max_ints min_ints
/-- The greater one of two lengths, as a letter. -/
theorem max_of (n k : Nat) : ∃ t : Nat, mxI (n : Int) (k : Int) = (t : Int) ∧ n ≤ t ∧ k ≤ t ∧ (t = n ∨ t = k) := by
  unfold mxI
  by_cases h : (n : Int) < (k : Int)
  · exact ⟨k, by rw [if_pos h], by omega, Nat.le_refl _, .inr rfl⟩
  · exact ⟨n, by rw [if_neg h], Nat.le_refl _, by omega, .inl rfl⟩
theorem ret_u32 {a b : Int} (h : a = b) : Ending.returned (.int .u32 a) = .returned (.int .u32 b) := by rw [h]

set_option maxHeartbeats 400000 in
theorem refOf_any (n : Nat) (w : World) (hn : n < 18446744073709551616) :
    Calls Try.prog 55 #[.int .u64 n] w (Gives w (canon n)) := by
  obtain ⟨lo, hlo⟩ : ∃ lo : Nat, lo = n % 4294967296 := ⟨_, rfl⟩
  obtain ⟨hi, hhi⟩ : ∃ hi : Nat, hi = n / 4294967296 := ⟨_, rfl⟩
  have e1 : (n : Int) % 4294967296 = (lo : Int) := by omega
  have e2 : (n : Int) / 4294967296 = (hi : Int) := by omega
  have l1 : lo < 4294967296 := by omega
  have l2 : hi < 4294967296 := by omega
  have HV : Hid (V [lo, hi] = n) := Lib.hid (by simp only [V]; omega)
  clear hlo hhi
  go_enter Try.func55, Try.ntmps55
  go_wp2_with (first
    | (go_at_call 52; refine (refNorm_any _ _ _ [lo, hi] _ (rd_lit2 w lo hi l1 l2) (by omega)).mono ?_; rintro e w' ⟨A2, n2, c2, rfl, hr2, hb2⟩))
  go_ret
  rw [HV.out] at hr2
  exact Gives.mk hr2 (below_next ((Below.refl _ _).alloc (Nat.le_refl _) _) hb2)

set_option maxHeartbeats 400000 in
theorem at_any (A : Option Addr) (n c : Nat) (xs : List Nat) (i x : Nat) (w : World) (hr : Rd w A n c xs) (hx : Hid (xs.getD i 0 = x)) :
    Calls Try.prog 53 #[.slice A n c, .int .i64 i] w fun e w' => e = .returned (.int .u32 x) ∧ w = w' := by
  by_cases hlt : i < n
  · obtain ⟨ad, y, rfl, hc, hy, HY⟩ := hr.word i hlt
    have e1 := hx.out
    rw [HY.out] at e1
    subst e1
    go_enter Try.func53, Try.ntmps53
    go_wp2
    go_ret
    exact ⟨rfl, rfl⟩
  · have e1 := hx.out
    rw [getD_ge xs i (by rw [hr.len]; omega)] at e1
    subst e1
    go_enter Try.func53, Try.ntmps53
    go_wp2
    go_ret
    exact ⟨rfl, rfl⟩
theorem at_word {w : World} {A : Option Addr} {n c : Nat} {xs : List Nat} (h : Rd w A n c xs) (j : Nat) : ∃ x : Nat, x < 4294967296 ∧ Hid (xs.getD j 0 = x) := ⟨_, h.ok.at j, Lib.hid rfl⟩

set_option maxHeartbeats 1000000 in
theorem refCmp_any (A B : Option Addr) (n c k d : Nat) (xs ys : List Nat) (w : World) (hr : Rd w A n c xs) (hs : Rd w B k d ys) (hn : n ≤ 35184372088832) (hk : k ≤ 35184372088832) :
    Calls Try.prog 49 #[.slice A n c, .slice B k d] w fun e w' => e = .returned (.int .i64 (cmpI (V xs) (V ys))) ∧ w = w' := by
  obtain ⟨t, ht, hnt, hkt, htt⟩ := max_of n k
  have htl : t ≤ 35184372088832 := by omega
  clear htt
  go_enter Try.func49, Try.ntmps49
  go_wp2
  go_loop [5] (fun vi => ∃ (i : Int), vi = .int .i64 i ∧ Alike xs ys i ∧ i < 35184372088832) (fun vi => (intOf vi + 1).toNat)
  case atStart => exact ⟨_, rfl, Alike.first (by rw [hr.len]; omega) (by rw [hs.len]; omega), by omega⟩
  case round =>
    obtain ⟨i, rfl, hal, hi⟩ := hrel
    have hlo := hal.1
    by_cases h0 : 0 ≤ i
    · obtain ⟨j, rfl⟩ := Int.eq_ofNat_of_zero_le h0
      obtain ⟨x, hx, HX⟩ := at_word hr j
      obtain ⟨y, hy, HY⟩ := at_word hs j
      by_cases hlt : x < y
      · go_wp2_with (first
          | (go_at_call 53; (with_reducible refine (at_any A _ _ _ _ x _ hr HX).mono ?_); rintro e w' ⟨rfl, rfl⟩)
          | (go_at_call 53; (with_reducible refine (at_any B _ _ _ _ y _ hs HY).mono ?_); rintro e w' ⟨rfl, rfl⟩))
        go_ret
        refine ⟨ret_i64 ?_, rfl⟩
        rw [hal.lt hr.ok (by rw [HX.out, HY.out]; exact hlt)]
      · by_cases hgt : y < x
        · go_wp2_with (first
            | (go_at_call 53; (with_reducible refine (at_any A _ _ _ _ x _ hr HX).mono ?_); rintro e w' ⟨rfl, rfl⟩)
            | (go_at_call 53; (with_reducible refine (at_any B _ _ _ _ y _ hs HY).mono ?_); rintro e w' ⟨rfl, rfl⟩))
          go_ret
          refine ⟨ret_i64 ?_, rfl⟩
          rw [hal.gt hs.ok (by rw [HX.out, HY.out]; exact hgt)]
        · go_wp2_with (first
            | (go_at_call 53; (with_reducible refine (at_any A _ _ _ _ x _ hr HX).mono ?_); rintro e w' ⟨rfl, rfl⟩)
            | (go_at_call 53; (with_reducible refine (at_any B _ _ _ _ y _ hs HY).mono ?_); rintro e w' ⟨rfl, rfl⟩))
          go_round
          case rel => exact ⟨_, rfl, hal.next (by rw [HX.out, HY.out]; omega), by omega⟩
          case measure => simp [intOf]
    · go_wp2
      go_ret
      refine ⟨ret_i64 ?_, rfl⟩
      rw [hal.eq (by omega)]

/-- Have two lists the same words? -/
def sameB (xs ys : List Nat) : Bool := decide (xs = ys)
theorem sameB_self (xs : List Nat) : sameB xs xs = true := by simp [sameB]
theorem sameB_len {xs ys : List Nat} (h : xs.length ≠ ys.length) : sameB xs ys = false := by
  simp only [sameB, decide_eq_false_iff_not]
  intro e
  exact h (by rw [e])
theorem sameB_at {xs ys : List Nat} (j : Nat) (h : xs.getD j 0 ≠ ys.getD j 0) : sameB xs ys = false := by
  simp only [sameB, decide_eq_false_iff_not]
  intro e
  exact h (by rw [e])
theorem sameB_all {xs ys : List Nat} (hl : xs.length = ys.length) (h : ∀ j, j < xs.length → xs.getD j 0 = ys.getD j 0) : sameB xs ys = true := by
  simp only [sameB, decide_eq_true_eq]
  apply List.ext_getElem hl
  intro i h1 h2
  have := h i h1
  rwa [getD_lt xs i h1, getD_lt ys i h2] at this

set_option maxHeartbeats 1000000 in
theorem same_any (A B : Option Addr) (n c k d : Nat) (xs ys : List Nat) (w : World) (hr : Rd w A n c xs) (hs : Rd w B k d ys) (hn : n ≤ 35184372088832) :
    Calls Try.prog 38 #[.slice A n c, .slice B k d] w fun e w' => e = .returned (.bool (sameB xs ys)) ∧ Drawn w w' := by
  by_cases hnk : n = k
  · subst hnk
    go_enter Try.func38, Try.ntmps38
    go_wp2
    go_loopw [5] (fun vi wr => ∃ (j : Nat), vi = .int .i64 j ∧ j ≤ n ∧ Drawn w wr ∧ ∀ i, i < j → xs.getD i 0 = ys.getD i 0) (fun vi _ => n - (intOf vi).toNat)
    case atStart => exact ⟨0, rfl, by omega, Drawn.refl _, fun i hi => absurd hi (by omega)⟩
    case round =>
      obtain ⟨j, rfl, hj, hq, hall⟩ := hrel
      have HA := Lib.hid hall
      clear hall
      by_cases hlt : j < n
      · obtain ⟨ad, x, rfl, hcx, hx, HX⟩ := (hr.below hq.below).word j hlt
        obtain ⟨bd, y, rfl, hcy, hy, HY⟩ := (hs.below hq.below).word j hlt
        by_cases he : x = y
        · subst he
          go_wp2
          go_quiet (fail)
          go_wp2
          go_roundw
          case rel =>
            refine ⟨j + 1, by go_num, by omega, by repeat (first | exact hq | apply Drawn.step), fun i hi => ?_⟩
            by_cases e : i = j
            · rw [e, HX.out, HY.out]
            · exact HA.out i (by omega)
          case measure => simp [intOf]; omega
        · have hne : ((x : Int) != (y : Int)) = true := by rw [bne_iff_ne]; omega
          go_wp2
          go_quiet (fail)
          go_wp2
          go_ret
          exact ⟨ret_bool (sameB_at j (by rw [HX.out, HY.out]; exact he)).symm, by repeat (first | exact hq | apply Drawn.step)⟩
      · go_wp2
        go_ret
        exact ⟨ret_bool (sameB_all (by rw [hr.len, hs.len]) (fun i hi => HA.out i (by rw [hr.len] at hi; omega))).symm, hq⟩
  · have hne : ((n : Int) != (k : Int)) = true := by rw [bne_iff_ne]; omega
    go_enter Try.func38, Try.ntmps38
    go_wp2
    go_ret
    exact ⟨ret_bool (sameB_len (by rw [hr.len, hs.len]; exact hnk)).symm, Drawn.refl _⟩
end Go.Proofs.Ythkblaodnfanfaa
