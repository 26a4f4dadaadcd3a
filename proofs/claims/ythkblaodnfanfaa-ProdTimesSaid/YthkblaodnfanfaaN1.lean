/- Contracts of package nat: Norm, Of, Zero, Small, Cmp. -/
import Derived.Test.YthkblaodnfanfaaC
import Derived.Test.YthkblaodnfanfaaM2
import Derived.Test.YthkblaodnfanfaaL
namespace Go.Proofs.Ythkblaodnfanfaa
open Go.RowKit M

/-- The world, but for draws. -/
def Drawn (w w' : World) : Prop := ∃ n, w' = w.drewN n
theorem Drawn.refl (w : World) : Drawn w w := ⟨0, rfl⟩
theorem Drawn.step {w w' : World} (h : Drawn w w') (n : Nat) : Drawn w (w'.drewN n) := by
  obtain ⟨m, rfl⟩ := h
  exact ⟨m + n, by simp [World.drewN, Nat.add_assoc]⟩
theorem Drawn.below {w w' : World} (h : Drawn w w') : Below w.heap.size w w' := by
  obtain ⟨m, rfl⟩ := h
  exact below_drewN (Below.refl _ _) m
theorem rd_lit2 (w : World) (a b : Nat) (ha : a < 4294967296) (hb : b < 4294967296) :
    Rd (w.alloc (.cells #[.int .u32 (a : Int), .int .u32 (b : Int)] 22)) (some ⟨w.heap.size, 0, none⟩) 2 2 [a, b] := by
  refine ⟨rfl, Nat.le_refl _, Ok.cons ha (Ok.cons hb Ok.nil), fun _ => ⟨_, rfl, fun j hj => ?_⟩⟩
  rw [add_plain]
  have hc := cell_of_row (w.alloc (.cells #[.int .u32 (a : Int), .int .u32 (b : Int)] 22)) w.heap.size j _ 22 (0, 0) (heap_alloc_new w _)
  rw [hc]
  match j, hj with
  | 0, _ => rfl
  | 1, _ => rfl

set_option maxHeartbeats 400000 in
theorem norm_any (A : Option Addr) (n c : Nat) (xs : List Nat) (w : World) (hr : Rd w A n c xs) (hn : n ≤ 35184372088832) :
    Calls Try.prog 54 #[.slice A n c] w (Gives w (canon (V xs))) := by
  go_enter Try.func54, Try.ntmps54
  go_wp2_with (first
    | (go_at_call 71; refine (trim_any _ _ _ xs _ hr hn).mono ?_; rintro e w' ⟨m, hm, hcan, rfl, rfl⟩; have HC := Lib.hid hcan; clear hcan)
    | (go_at_call 73; refine (fresh_any A m c 0 (xs.take m) _ (hr.take m hm) (by omega) (by omega)).mono ?_; rintro e w' ⟨g, rfl, hown, hb⟩))
  go_ret
  have h := hown.rd
  rw [List.replicate_zero, List.append_nil, HC.out] at h
  exact Gives.mk h hb

set_option maxHeartbeats 400000 in
theorem of_any (n : Nat) (w : World) (hn : n < 18446744073709551616) :
    Calls Try.prog 34 #[.int .u64 n] w (Gives w (canon n)) := by
  obtain ⟨lo, hlo⟩ : ∃ lo : Nat, lo = n % 4294967296 := ⟨_, rfl⟩
  obtain ⟨hi, hhi⟩ : ∃ hi : Nat, hi = n / 4294967296 := ⟨_, rfl⟩
  have e1 : (n : Int) % 4294967296 = (lo : Int) := by omega
  have e2 : (n : Int) / 4294967296 = (hi : Int) := by omega
  have l1 : lo < 4294967296 := by omega
  have l2 : hi < 4294967296 := by omega
  have HV : Hid (V [lo, hi] = n) := Lib.hid (by simp only [V]; omega)
  clear hlo hhi
  go_enter Try.func34, Try.ntmps34
  go_wp2_with (first
    | (go_at_call 71; refine (trim_any _ _ _ [lo, hi] _ (rd_lit2 w lo hi l1 l2) (by omega)).mono ?_; rintro e w' ⟨m, hm, hcan, rfl, rfl⟩; have HC := Lib.hid hcan; clear hcan))
  go_ret
  have h := (rd_lit2 w lo hi l1 l2).take m hm
  rw [HC.out, HV.out] at h
  exact Gives.mk h ((Below.refl _ _).alloc (Nat.le_refl _) _)

theorem ret_bool {a b : Bool} (h : a = b) : Ending.returned (.bool a) = .returned (.bool b) := by rw [h]

set_option maxHeartbeats 400000 in
theorem zero_any (A : Option Addr) (n c : Nat) (xs : List Nat) (w : World) (hr : Rd w A n c xs) (hn : n ≤ 35184372088832) :
    Calls Try.prog 56 #[.slice A n c] w fun e w' => e = .returned (.bool (isZ (V xs))) ∧ w = w' := by
  go_enter Try.func56, Try.ntmps56
  go_wp2_with (first
    | (go_at_call 71; refine (trim_any _ _ _ xs _ hr hn).mono ?_; rintro e w' ⟨m, hm, hcan, rfl, rfl⟩; have HC := Lib.hid hcan; clear hcan))
  go_ret
  refine ⟨ret_bool ?_, rfl⟩
  have h1 := take_len (by rw [hr.len]; exact hm) HC.out
  have h2 := canon_nil_iff (V xs)
  rw [Bool.eq_iff_iff]
  simp [isZ]
  omega

/-- Where the comparison from the top stands: above i all words are alike. -/
def Alike (us vs : List Nat) (i : Int) : Prop := -1 ≤ i ∧ ∀ j : Nat, i < j → us.getD j 0 = vs.getD j 0
theorem Alike.next {us vs : List Nat} {i : Nat} (h : Alike us vs i) (he : us.getD i 0 = vs.getD i 0) : Alike us vs ((i : Int) - 1) := by
  refine ⟨by omega, fun j hj => ?_⟩
  by_cases e : j = i
  · rw [e]; exact he
  · exact h.2 j (by omega)
theorem Alike.lt {us vs : List Nat} {i : Nat} (h : Alike us vs i) (ho : Ok us) (hlt : us.getD i 0 < vs.getD i 0) : cmpI (V us) (V vs) = -1 :=
  cmpI_lt (V_lt_of ho i (fun j hj => h.2 j (by omega)) hlt)
theorem Alike.gt {us vs : List Nat} {i : Nat} (h : Alike us vs i) (ho : Ok vs) (hlt : vs.getD i 0 < us.getD i 0) : cmpI (V us) (V vs) = 1 :=
  cmpI_gt (V_lt_of ho i (fun j hj => (h.2 j (by omega)).symm) hlt)
theorem Alike.eq {us vs : List Nat} {i : Int} (h : Alike us vs i) (hi : i < 0) : cmpI (V us) (V vs) = 0 :=
  cmpI_eq (V_congr us vs (fun j => h.2 j (by omega)))
theorem Alike.first {us vs : List Nat} {m : Nat} (ha : us.length ≤ m) (hb : vs.length ≤ m) : Alike us vs ((m : Int) - 1) :=
  ⟨by omega, fun j hj => by rw [getD_ge us j (by omega), getD_ge vs j (by omega)]⟩

set_option maxHeartbeats 1000000 in
theorem cmp_any (A B : Option Addr) (n c k d : Nat) (xs ys : List Nat) (w : World) (hr : Rd w A n c xs) (hs : Rd w B k d ys) (hn : n ≤ 35184372088832) (hk : k ≤ 35184372088832) :
    Calls Try.prog 33 #[.slice A n c, .slice B k d] w fun e w' => e = .returned (.int .i64 (cmpI (V xs) (V ys))) ∧ Drawn w w' := by
  go_enter Try.func33, Try.ntmps33
  go_wp2_with (first
    | (go_at_call 71; (with_reducible refine (trim_any A _ _ xs _ hr hn).mono ?_); rintro e w' ⟨m1, hm1, hcan1, rfl, rfl⟩; have HC1 := Lib.hid hcan1; clear hcan1)
    | (go_at_call 71; (with_reducible refine (trim_any B _ _ ys _ hs hk).mono ?_); rintro e w' ⟨m2, hm2, hcan2, rfl, rfl⟩; have HC2 := Lib.hid hcan2; clear hcan2))
  · go_ret
    refine ⟨ret_i64 ?_, Drawn.refl _⟩
    have l1 := take_len (by rw [hr.len]; exact hm1) HC1.out
    have l2 := take_len (by rw [hs.len]; exact hm2) HC2.out
    exact (cmpI_lt (lt_of_canon_len (by omega))).symm
  · go_ret
    refine ⟨ret_i64 ?_, Drawn.refl _⟩
    have l1 := take_len (by rw [hr.len]; exact hm1) HC1.out
    have l2 := take_len (by rw [hs.len]; exact hm2) HC2.out
    exact (cmpI_gt (lt_of_canon_len (by omega))).symm
  · obtain rfl : m1 = m2 := by omega
    have v1 : V (xs.take m1) = V xs := by rw [HC1.out, V_canon]
    have v2 : V (ys.take m1) = V ys := by rw [HC2.out, V_canon]
    have r1 := hr.take m1 hm1
    have r2 := hs.take m1 hm2
    have V1 := Lib.hid v1
    have V2 := Lib.hid v2
    clear v1 v2 HC1 HC2
    go_loopw [5] (fun vi wr => ∃ (i : Int), vi = .int .i64 i ∧ Drawn w wr ∧ Alike (xs.take m1) (ys.take m1) i ∧ i < m1) (fun vi _ => (intOf vi + 1).toNat)
    case atStart => exact ⟨_, rfl, Drawn.refl _, Alike.first (by rw [r1.len]; omega) (by rw [r2.len]; omega), by omega⟩
    case round =>
      obtain ⟨i, rfl, hq, hal, hi⟩ := hrel
      have hlo := hal.1
      by_cases h0 : 0 ≤ i
      · obtain ⟨j, rfl⟩ := Int.eq_ofNat_of_zero_le h0
        obtain ⟨ad, x, rfl, hcx, hx, HX⟩ := (r1.below hq.below).word j (by omega)
        obtain ⟨bd, y, rfl, hcy, hy, HY⟩ := (r2.below hq.below).word j (by omega)
        by_cases hlt : x < y
        · go_wp2
          go_quiet (fail)
          go_wp2
          go_ret
          refine ⟨ret_i64 ?_, by repeat (first | exact hq | apply Drawn.step)⟩
          rw [← V1.out, ← V2.out, hal.lt r1.ok (by rw [HX.out, HY.out]; exact hlt)]
        · by_cases hgt : y < x
          · go_wp2
            go_quiet (fail)
            go_wp2
            go_quiet (fail)
            go_wp2
            go_ret
            refine ⟨ret_i64 ?_, by repeat (first | exact hq | apply Drawn.step)⟩
            rw [← V1.out, ← V2.out, hal.gt r2.ok (by rw [HX.out, HY.out]; exact hgt)]
          · go_wp2
            go_quiet (fail)
            go_wp2
            go_quiet (fail)
            go_wp2
            go_roundw
            case rel => exact ⟨_, rfl, by repeat (first | exact hq | apply Drawn.step), hal.next (by rw [HX.out, HY.out]; omega), by omega⟩
            case measure => simp [intOf]
      · go_wp2
        go_ret
        refine ⟨ret_i64 ?_, by repeat (first | exact hq | apply Drawn.step)⟩
        rw [← V1.out, ← V2.out, hal.eq (by omega)]

theorem ret2_small {a b : Int} {p q : Bool} (h : a = b) (k : p = q) : Ending.returned (.tuple #[.int .u64 a, .bool p]) = .returned (.tuple #[.int .u64 b, .bool q]) := by rw [h, k]
theorem or_zero (x : Nat) (hx : x < 4294967296) : bits .or .u64 0 (x : Int) = (x : Int) := by
  have := bits_join .u64 64 (by decide) wraps_u64 32 0 (x : Int) (by omega) (by omega) (by omega) (by omega) (by omega) (by omega)
  omega
theorem or_high (x y : Nat) (hx : x < 4294967296) (hy : y < 4294967296) : bits .or .u64 (x : Int) ((y : Int) * 4294967296) = (x : Int) + (y : Int) * 4294967296 := by
  have h := join_u64 y x (by omega) (by omega) (by omega) (by omega)
  have hc : bits .or .u64 (x : Int) ((y : Int) * 4294967296) = bits .or .u64 ((y : Int) * 4294967296) (x : Int) := by
    simp only [bits, BitVec.or_comm]
  omega
set_option maxHeartbeats 1000000 in
theorem small_any (A : Option Addr) (n c : Nat) (xs : List Nat) (w : World) (hr : Rd w A n c xs) (hn : n ≤ 35184372088832) :
    Calls Try.prog 51 #[.slice A n c] w fun e w' => e = .returned (.tuple #[.int .u64 (smallV (V xs)), .bool (smallB (V xs))]) ∧ w = w' := by
  go_enter Try.func51, Try.ntmps51
  go_wp2_with (first
    | (go_at_call 71; (with_reducible refine (trim_any A _ _ xs _ hr hn).mono ?_); rintro e w' ⟨m, hm, hcan, rfl, rfl⟩; have HC := Lib.hid hcan; clear hcan))
  · go_ret2
    have l1 := take_len (by rw [hr.len]; exact hm) HC.out
    have hbig : ¬ V xs < 18446744073709551616 := by
      intro h
      have := canon_length_le (n := V xs) (k := 2) (by omega)
      omega
    refine ⟨ret2_small ?_ ?_, rfl⟩
    · unfold smallV; rw [if_neg hbig]; rfl
    · unfold smallB; simp [hbig]
  · have v1 : V (xs.take m) = V xs := by rw [HC.out, V_canon]
    have r1 := hr.take m hm
    have hm2 : m ≤ 2 := by omega
    have hlt := V_lt r1.ok
    rw [r1.len] at hlt
    have V1 := Lib.hid v1
    have HL := Lib.hid hlt
    clear v1 hlt HC
    go_loop [4, 14] (fun vn vi => ∃ (k s : Nat), vi = .int .i64 k ∧ k ≤ m ∧ vn = .int .u64 s ∧ Hid (s = V ((xs.take m).take k))) (fun _ vi => m - (intOf vi).toNat)
    case atStart => exact ⟨0, 0, rfl, by omega, rfl, Lib.hid rfl⟩
    case round =>
      obtain ⟨k, s, rfl, hk, rfl, HS⟩ := hrel
      by_cases hlt : k < m
      · obtain ⟨ad, x, rfl, hcx, hx, HX⟩ := r1.word k hlt
        have hk2 : k = 0 ∨ k = 1 := by omega
        rcases hk2 with rfl | rfl
        · have hcx0 : w.cell? ad = some (.int .u32 (x : Int)) := by simpa [Addr.add] using hcx
          obtain rfl : s = 0 := HS.out
          have hor := or_zero x hx
          go_wp2
          go_round
          case rel => exact ⟨1, x, rfl, hlt, rfl, Lib.hid (by rw [V_take_succ _ 0 (by rw [r1.len]; exact hlt), HX.out]; simp [V])⟩
          case measure => simp [intOf]; omega
        · have hs := HS.out
          have hv := V_take_succ (xs.take m) 0 (by rw [r1.len]; omega)
          have hv2 := V_take_succ (xs.take m) 1 (by rw [r1.len]; omega)
          have hb := V_lt (r1.ok.take 1)
          rw [List.length_take, r1.len, Nat.min_eq_left (by omega)] at hb
          have hs1 : s < 4294967296 := by omega
          rw [← hs, HX.out] at hv2
          have HV := Lib.hid hv2
          clear hs hv hv2 hb HX
          have hor := or_high s x hs1 hx
          have hcx1 : w.cell? ⟨ad.block, ad.off + 1, none⟩ = some (.int .u32 (x : Int)) := by simpa [Addr.add] using hcx
          go_wp2
          go_round
          case rel => exact ⟨2, s + x * 4294967296, rfl, hlt, by go_num, Lib.hid (by have := HV.out; show _ = V ((xs.take m).take (1 + 1)); omega)⟩
          case measure => simp [intOf]; omega
      · go_wp2
        go_ret2
        obtain rfl : k = m := by omega
        have h1 := HS.out
        rw [List.take_of_length_le (by rw [r1.len]; omega), V1.out] at h1
        have h2 := HL.out
        rw [V1.out] at h2
        have h3 : 4294967296 ^ k ≤ 4294967296 ^ 2 := Nat.pow_le_pow_right (by omega) hm2
        have hsm : V xs < 18446744073709551616 := by omega
        refine ⟨ret2_small ?_ ?_, rfl⟩
        · unfold smallV; rw [if_pos hsm, h1]
        · unfold smallB; simp [hsm]
end Go.Proofs.Ythkblaodnfanfaa
