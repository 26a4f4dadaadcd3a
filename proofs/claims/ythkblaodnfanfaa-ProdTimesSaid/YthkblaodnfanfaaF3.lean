/- Contracts of the document's answer for layer 2: Long, Add, Sub. -/
import Derived.Test.YthkblaodnfanfaaF2
import Derived.Test.YthkblaodnfanfaaN4
namespace Go.Proofs.Ythkblaodnfanfaa
open Go.RowKit M
attribute [local go_sem] max_ints min_ints

/-- How many words the lists have in all. -/
def words : List (List Nat) → Nat
  | [] => 0
  | x :: xs => x.length + words xs
theorem words_append (K L : List (List Nat)) : words (K ++ L) = words K + words L := by
  induction K with
  | nil => simp [words]
  | cons x K ih => simp only [List.cons_append, words, ih]; omega
theorem words_take_succ (L : List (List Nat)) (j : Nat) (hj : j < L.length) : words (L.take (j + 1)) = words (L.take j) + (L.getD j []).length := by
  rw [List.take_succ_eq_append_getElem hj, words_append, List.getD_eq_getElem?_getD, List.getElem?_eq_getElem hj]
  simp [words]
theorem words_at (L : List (List Nat)) (j : Nat) (hj : j < L.length) : (L.getD j []).length ≤ words L := by
  have h1 := words_take_succ L j hj
  have h2 : words L = words (L.take (j + 1)) + words (L.drop (j + 1)) := by rw [← words_append, List.take_append_drop]
  omega
/-- What Long tells: false only of few lists of few words. -/
def Longs (w : World) (L : List (List Nat)) (most : Nat) (e : Ending) (w' : World) : Prop :=
  ∃ b : Bool, e = .returned (.bool b) ∧ (b = false → L.length ≤ 100 ∧ words L ≤ most) ∧ w = w'

set_option maxHeartbeats 1000000 in
theorem long_any (A : Option Addr) (n c : Nat) (L : List (List Nat)) (most : Nat) (w : World) (hr : RdL w A n c L) (hn : n ≤ 9223372036854775807) (hmost : most ≤ 1000000) :
    Calls Try.prog 35 #[.slice A n c, .int .i64 most] w (Longs w L most) := by
  go_enter Try.func35, Try.ntmps35
  go_wp2
  go_loop [1, 5] (fun vm vi => ∃ (j r : Nat), vi = .int .i64 j ∧ j ≤ n ∧ vm = .int .i64 r ∧ Hid (words (L.take j) + r = most ∧ j ≤ 100) ∧ r ≤ most) (fun _ vi => n - (intOf vi).toNat)
  case atStart => exact ⟨0, most, rfl, by omega, rfl, Lib.hid ⟨by simp [words], by omega⟩, Nat.le_refl _⟩
  case round =>
    obtain ⟨j, r, rfl, hj, rfl, HS, hrm⟩ := hrel
    by_cases hlt : j < n
    · obtain ⟨ad, A2, n2, c2, rfl, hcell, hr2⟩ := hr.at j hlt
      by_cases hbig : r < n2
      · go_wp2
        go_ret
        exact ⟨true, rfl, (fun h => by cases h), rfl⟩
      · by_cases hmany : 100 ≤ j
        · go_wp2
          go_ret
          exact ⟨true, rfl, (fun h => by cases h), rfl⟩
        · have hw := words_take_succ L j (by rw [hr.len]; exact hlt)
          rw [hr2.len] at hw
          have HW := Lib.hid hw
          clear hw
          go_wp2
          go_round
          case rel => exact ⟨j + 1, r - n2, by go_num, by omega, by go_num, Lib.hid ⟨by have := HW.out; have := HS.out; omega, by omega⟩, by omega⟩
          case measure => simp [intOf]; omega
    · obtain rfl : j = n := by omega
      go_wp2
      go_ret
      have h := HS.out
      rw [List.take_of_length_le (by rw [hr.len]; omega)] at h
      exact ⟨false, rfl, fun _ => ⟨by rw [hr.len]; exact h.2, by omega⟩, rfl⟩

theorem Sums.top {xs ys zs : List Nat} {n m cy : Nat} (h : Sums xs ys zs n cy) (hxo : Ok xs) (hyo : Ok ys) (hz : zs.length = n) (hn : n = m + 1) (hx : xs.length ≤ m) (hy : ys.length ≤ m) : V zs = V xs + V ys := by
  obtain ⟨h1, h2⟩ := h
  rw [P_all zs n (by omega), P_all xs n (by omega), P_all ys n (by omega)] at h2
  have hx1 := V_lt hxo
  have hy1 := V_lt hyo
  have hx2 : 4294967296 ^ xs.length ≤ 4294967296 ^ m := Nat.pow_le_pow_right (by omega) hx
  have hy2 : 4294967296 ^ ys.length ≤ 4294967296 ^ m := Nat.pow_le_pow_right (by omega) hy
  have e : 4294967296 ^ n = 4294967296 ^ m * 4294967296 := by rw [hn, Nat.pow_succ]
  have h4 : cy = 0 ∨ cy = 1 := by omega
  rcases h4 with rfl | rfl
  · omega
  · omega
theorem wide_sum (x y cy : Nat) :
    ((cy : Int) + ((x : Int) + (y : Int))) % 4294967296 = (sumLo x y cy : Int) ∧ ((cy : Int) + ((x : Int) + (y : Int))) / 4294967296 = (sumHi x y cy : Int) := by
  unfold sumLo sumHi
  omega

set_option maxHeartbeats 2000000 in
theorem refAdd2_any (A B : Option Addr) (n c k d : Nat) (xs ys : List Nat) (w : World) (hr : Rd w A n c xs) (hs : Rd w B k d ys) (hn : n ≤ 35184372088831) (hk : k ≤ 35184372088831) :
    Calls Try.prog 37 #[.slice A n c, .slice B k d] w (Gives w (canon (V xs + V ys))) := by
  obtain ⟨t, ht, hnt, hkt, htt⟩ := max_of n k
  have htl : t ≤ 35184372088831 := by omega
  clear htt
  go_enter Try.func37, Try.ntmps37
  go_wp2_with (first
    | (at_make; refine make_words _ rfl _ _ rfl _ (t + 1) rfl rfl (by omega) (by omega) ?_; intro g w1 hown0 hb0))
  generalize List.replicate (t + 1) 0 = O0 at hown0
  go_loopw [7, 8] (fun vc vi wr => ∃ (j cy : Nat) (O : List Nat), vi = .int .i64 j ∧ j ≤ t + 1 ∧ vc = .int .u64 cy ∧ Own wr w.heap.size g (t + 1) (t + 1) O ∧ Below w.heap.size w wr ∧ Sums xs ys O j cy) (fun _ vi _ => t + 1 - (intOf vi).toNat)
  case atStart => exact ⟨0, 0, O0, rfl, by omega, rfl, hown0, hb0, Sums.first _ _ _⟩
  case round =>
    clear hown0 hb0
    obtain ⟨j, cy, O, rfl, hj, rfl, hown, hb, hsum⟩ := hrel
    have hcy := hsum.1
    by_cases hlt : j < t + 1
    · obtain ⟨x, hx, HX⟩ := at_word hr j
      obtain ⟨y, hy, HY⟩ := at_word hs j
      have hfz := hown.frozen j
      obtain ⟨z, hcz, hz, _⟩ := hown.word j hlt
      obtain ⟨e1, e2⟩ := wide_sum x y cy
      go_wp2_with (first
        | (go_at_call 53; (with_reducible refine (at_any A _ _ _ _ x _ (hr.below hb) HX).mono ?_); rintro e w' ⟨rfl, rfl⟩)
        | (go_at_call 53; (with_reducible refine (at_any B _ _ _ _ y _ (hs.below hb) HY).mono ?_); rintro e w' ⟨rfl, rfl⟩))
      go_roundw
      case rel => exact ⟨j + 1, sumHi x y cy, _, by go_num, by omega, by first | rfl | rw [e2], hown.set j _ (Nat.mod_lt _ (by omega)), hb.setCell hown.base_le _, hsum.next (by rw [hown.len]; omega) HX HY.out hx hy⟩
      case measure => simp [intOf]; omega
    · obtain rfl : j = t + 1 := by omega
      have hv := hsum.top hr.ok hs.ok hown.len rfl (by rw [hr.len]; exact hnt) (by rw [hs.len]; exact hkt)
      have HV := Lib.hid hv
      clear hv
      go_wp2_with (first
        | (go_at_call 52; refine (refNorm_any _ _ _ _ _ hown.rd (by omega)).mono ?_; rintro e w' ⟨A2, n2, c2, rfl, hr2, hb2⟩))
      go_ret
      rw [HV.out] at hr2
      exact Gives.mk hr2 (below_next hb hb2)

theorem Difs.top {xs ys zs : List Nat} {n bw : Nat} (h : Difs xs ys zs n bw) (hzo : Ok zs) (hz : zs.length = n) (hx : xs.length ≤ n) (hy : ys.length ≤ n) (hle : V ys ≤ V xs) : V zs = V xs - V ys := by
  obtain ⟨h1, h2⟩ := h
  rw [P_all zs n (by omega), P_all xs n hx, P_all ys n hy] at h2
  have h3 := V_lt hzo
  rw [hz] at h3
  have h4 : bw = 0 ∨ bw = 1 := by omega
  rcases h4 with rfl | rfl
  · omega
  · omega
theorem owed_yes (x y bw : Nat) (hx : x < 4294967296) (hy : y < 4294967296) (hb : bw ≤ 1) (h : x < y + bw) : difHi x y bw = 1 ∧ difLo x y bw = x + 4294967296 - (y + bw) := by
  unfold difLo difHi
  omega
theorem owed_no (x y bw : Nat) (hx : x < 4294967296) (h : ¬ x < y + bw) : difHi x y bw = 0 ∧ difLo x y bw = x - (y + bw) := by
  unfold difLo difHi
  omega

set_option maxHeartbeats 2000000 in
theorem refSub2_any (A B : Option Addr) (n c k d : Nat) (xs ys : List Nat) (w : World) (hr : Rd w A n c xs) (hs : Rd w B k d ys) (hn : n ≤ 35184372088831) (hk : k ≤ 35184372088831) (hle : V ys ≤ V xs) :
    Calls Try.prog 50 #[.slice A n c, .slice B k d] w (Gives w (canon (V xs - V ys))) := by
  obtain ⟨t, ht, hnt, hkt, htt⟩ := max_of n k
  have htl : t ≤ 35184372088831 := by omega
  clear htt
  go_enter Try.func50, Try.ntmps50
  go_wp2_with (first
    | (at_make; refine make_words _ rfl _ _ rfl _ t rfl rfl (by omega) (by omega) ?_; intro g w1 hown0 hb0))
  generalize List.replicate t 0 = O0 at hown0
  go_loopw [7, 8] (fun vc vi wr => ∃ (j cy : Nat) (O : List Nat), vi = .int .i64 j ∧ j ≤ t ∧ vc = .int .u64 cy ∧ Own wr w.heap.size g t t O ∧ Below w.heap.size w wr ∧ Difs xs ys O j cy) (fun _ vi _ => t - (intOf vi).toNat)
  case atStart => exact ⟨0, 0, O0, rfl, by omega, rfl, hown0, hb0, Difs.first _ _ _⟩
  case round =>
    clear hown0 hb0
    obtain ⟨j, cy, O, rfl, hj, rfl, hown, hb, hdif⟩ := hrel
    have hcy := hdif.1
    by_cases hlt : j < t
    · obtain ⟨x, hx, HX⟩ := at_word hr j
      obtain ⟨y, hy, HY⟩ := at_word hs j
      have hfz := hown.frozen j
      obtain ⟨z, hcz, hz, _⟩ := hown.word j hlt
      have hnx := hdif.next (by rw [hown.len]; omega) HX HY.out hx hy
      by_cases hlo : x < y + cy
      · obtain ⟨o1, o2⟩ := owed_yes x y cy hx hy hcy hlo
        rw [o1, o2] at hnx
        clear o1 o2
        obtain ⟨v, hv⟩ : ∃ v : Nat, v = x + 4294967296 - (y + cy) := ⟨_, rfl⟩
        have hvi : (x : Int) + 4294967296 - ((y : Int) + (cy : Int)) = (v : Int) := by omega
        rw [← hv] at hnx
        clear hv
        go_wp2_with (first
          | (go_at_call 53; (with_reducible refine (at_any A _ _ _ _ x _ (hr.below hb) HX).mono ?_); rintro e w' ⟨rfl, rfl⟩)
          | (go_at_call 53; (with_reducible refine (at_any B _ _ _ _ y _ (hs.below hb) HY).mono ?_); rintro e w' ⟨rfl, rfl⟩))
        go_roundw
        case rel => exact ⟨j + 1, 1, _, by go_num, by omega, rfl, hown.set j v hnx.1, hb.setCell hown.base_le _, hnx.2⟩
        case measure => simp [intOf]; omega
      · obtain ⟨o1, o2⟩ := owed_no x y cy hx hlo
        rw [o1, o2] at hnx
        clear o1 o2
        obtain ⟨v, hv⟩ : ∃ v : Nat, v = x - (y + cy) := ⟨_, rfl⟩
        have hvi : (x : Int) - ((y : Int) + (cy : Int)) = (v : Int) := by omega
        rw [← hv] at hnx
        clear hv
        go_wp2_with (first
          | (go_at_call 53; (with_reducible refine (at_any A _ _ _ _ x _ (hr.below hb) HX).mono ?_); rintro e w' ⟨rfl, rfl⟩)
          | (go_at_call 53; (with_reducible refine (at_any B _ _ _ _ y _ (hs.below hb) HY).mono ?_); rintro e w' ⟨rfl, rfl⟩))
        go_roundw
        case rel => exact ⟨j + 1, 0, _, by go_num, by omega, rfl, hown.set j v hnx.1, hb.setCell hown.base_le _, hnx.2⟩
        case measure => simp [intOf]; omega
    · obtain rfl : j = t := by omega
      have hv := hdif.top hown.ok hown.len (by rw [hr.len]; exact hnt) (by rw [hs.len]; exact hkt) hle
      have HV := Lib.hid hv
      clear hv
      go_wp2_with (first
        | (go_at_call 52; refine (refNorm_any _ _ _ _ _ hown.rd (by omega)).mono ?_; rintro e w' ⟨A2, n2, c2, rfl, hr2, hb2⟩))
      go_ret
      rw [HV.out] at hr2
      exact Gives.mk hr2 (below_next hb hb2)
end Go.Proofs.Ythkblaodnfanfaa
