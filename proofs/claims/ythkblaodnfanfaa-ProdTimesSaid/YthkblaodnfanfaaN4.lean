/- Contracts of package nat: Sub and Gap. -/
import Derived.Test.YthkblaodnfanfaaN3
namespace Go.Proofs.Ythkblaodnfanfaa
open Go.RowKit M

/-- Is the one at least the other? -/
def geB (a b : Nat) : Bool := decide (b ≤ a)
def Gives2 (w : World) (xs : List Nat) (r : Value) (e : Ending) (w' : World) : Prop :=
  ∃ A n c, e = .returned (.tuple #[.slice A n c, r]) ∧ Rd w' A n c xs ∧ Below w.heap.size w w'

theorem canon_len_mono {a b : Nat} (h : a ≤ b) : (canon a).length ≤ (canon b).length := by
  apply canon_length_le
  have := V_lt (canon_ok b)
  rw [V_canon] at this
  omega
/-- Where the difference word by word stands. -/
def Difs (xs ys zs : List Nat) (j bw : Nat) : Prop := bw ≤ 1 ∧ P zs j + P ys j = P xs j + 4294967296 ^ j * bw
theorem Difs.first (xs ys zs : List Nat) : Difs xs ys zs 0 0 := ⟨by omega, by simp [P_zero]⟩
theorem Difs.next {xs ys zs : List Nat} {j bw x y : Nat} (h : Difs xs ys zs j bw) (hj : j < zs.length) (hx : Hid (xs.getD j 0 = x)) (hy : ys.getD j 0 = y) (hxl : x < 4294967296) (hyl : y < 4294967296) :
    difLo x y bw < 4294967296 ∧ Difs xs ys (zs.set j (difLo x y bw)) (j + 1) (difHi x y bw) := by
  obtain ⟨h1, h2⟩ := h
  refine ⟨by unfold difLo difHi; omega, by unfold difHi; omega, ?_⟩
  rw [P_set _ _ _ hj, P_succ, P_succ, hx.out, hy, Nat.pow_succ, Nat.mul_assoc]
  have hd : difLo x y bw + (y + bw) = x + 4294967296 * difHi x y bw := by unfold difLo difHi; omega
  have e : 4294967296 ^ j * (difLo x y bw + (y + bw)) = 4294967296 ^ j * (x + 4294967296 * difHi x y bw) := by rw [hd]
  simp only [Nat.mul_add] at e ⊢
  omega
theorem Difs.last {xs ys zs : List Nat} {n bw : Nat} (h : Difs xs ys zs n bw) (hzo : Ok zs) (hz : zs.length = n) (hx : xs.length = n) (hy : ys.length ≤ n) (hle : V ys ≤ V xs) : V zs = V xs - V ys := by
  obtain ⟨h1, h2⟩ := h
  rw [P_all zs n (by omega), P_all xs n (by omega), P_all ys n hy] at h2
  have h3 := V_lt hzo
  rw [hz] at h3
  have h4 : bw = 0 ∨ bw = 1 := by omega
  rcases h4 with rfl | rfl
  · omega
  · omega

set_option maxHeartbeats 2000000 in
theorem sub_any (A B : Option Addr) (n c k d : Nat) (xs ys : List Nat) (w : World) (hr : Rd w A n c xs) (hs : Rd w B k d ys) (hn : n ≤ 35184372088831) (hk : k ≤ 35184372088831) :
    Calls Try.prog 40 #[.slice A n c, .slice B k d] w (Gives2 w (canon (V xs - V ys)) (.bool (geB (V xs) (V ys)))) := by
  by_cases hlt : V xs < V ys
  · have hg : geB (V xs) (V ys) = false := by simp [geB]; omega
    have hz : canon (V xs - V ys) = [] := by rw [Nat.sub_eq_zero_of_le (by omega), canon_zero]
    rw [hg, hz]
    have hneg := cmpI_neg.2 hlt
    clear hg hz hlt
    go_enter Try.func40, Try.ntmps40
    go_wp2_with (first
      | (go_at_call 71; (with_reducible refine (trim_any A _ _ xs _ hr (by omega)).mono ?_); rintro e w' ⟨m1, hm1, hcan1, rfl, rfl⟩; have HC1 := Lib.hid hcan1; clear hcan1)
      | (go_at_call 71; (with_reducible refine (trim_any B _ _ ys _ hs (by omega)).mono ?_); rintro e w' ⟨m2, hm2, hcan2, rfl, rfl⟩; have HC2 := Lib.hid hcan2; clear hcan2)
      | (go_at_call 33; (refine (cmp_any _ _ _ _ _ _ _ _ _ (hr.take m1 hm1) (hs.take m2 hm2) (by omega) (by omega)).mono ?_); rw [HC1.out, HC2.out, V_canon, V_canon]; rintro e w' ⟨rfl, hd⟩))
    go_ret2
    exact ⟨none, 0, 0, rfl, Rd.nil _ _ _, hd.below⟩
  · have hg : geB (V xs) (V ys) = true := by simp [geB]; omega
    rw [hg]
    have hle : V ys ≤ V xs := by omega
    have hpos : 0 ≤ cmpI (V xs) (V ys) := by
      have := cmpI_neg (a := V xs) (b := V ys)
      omega
    clear hg hlt
    go_enter Try.func40, Try.ntmps40
    go_wp2_with (first
      | (go_at_call 71; (with_reducible refine (trim_any A _ _ xs _ hr (by omega)).mono ?_); rintro e w' ⟨m1, hm1, hcan1, rfl, rfl⟩; have HC1 := Lib.hid hcan1; clear hcan1)
      | (go_at_call 71; (with_reducible refine (trim_any B _ _ ys _ hs (by omega)).mono ?_); rintro e w' ⟨m2, hm2, hcan2, rfl, rfl⟩; have HC2 := Lib.hid hcan2; clear hcan2)
      | (go_at_call 33; (refine (cmp_any _ _ _ _ _ _ _ _ _ (hr.take m1 hm1) (hs.take m2 hm2) (by omega) (by omega)).mono ?_); rw [HC1.out, HC2.out, V_canon, V_canon]; rintro e w' ⟨rfl, hd⟩)
      | (go_at_call 73; (refine (fresh_any A m1 c 0 (xs.take m1) _ ((hr.take m1 hm1).below hd.below) (by omega) (by omega)).mono ?_); rintro e w1 ⟨g, rfl, hown0, hb0⟩))
    rw [List.replicate_zero, List.append_nil] at hown0
    have r1 := hr.take m1 hm1
    have r2 := hs.take m2 hm2
    have hle2 := canon_len_mono hle
    rw [take_len (by rw [hr.len]; exact hm1) HC1.out, take_len (by rw [hs.len]; exact hm2) HC2.out] at hle2
    have v1 : V (xs.take m1) = V xs := by rw [HC1.out, V_canon]
    have v2 : V (ys.take m2) = V ys := by rw [HC2.out, V_canon]
    rw [← v1, ← v2] at hle
    have V1 := Lib.hid v1
    have V2 := Lib.hid v2
    clear v1 v2 HC1 HC2 hpos hr hs
    generalize xs.take m1 = us at *
    generalize ys.take m2 = vs at *
    have hb1 := below_next hd.below hb0
    have hown1 := hown0.lower hd.below.size
    have r3 := r1.below hb1
    have r4 := r2.below hb1
    have hsz := hd.below.size
    clear hb0 hown0 hd
    go_loopw [7, 22] (fun vc vi wr => ∃ (j cy : Nat) (O : List Nat), vi = .int .i64 j ∧ j ≤ m1 ∧ vc = .int .u32 cy ∧ Own wr w.heap.size g m1 m1 O ∧ Below w.heap.size w wr ∧ Difs us vs O j cy) (fun _ vi _ => m1 - (intOf vi).toNat)
    case atStart => exact ⟨0, 0, us, rfl, by omega, rfl, hown1, hb1, Difs.first _ _ _⟩
    case round =>
      clear hown1 hb1 r3 r4
      obtain ⟨j, cy, O, rfl, hj, rfl, hown, hb, hdif⟩ := hrel
      have hcy := hdif.1
      by_cases hlt : j < m1
      · obtain ⟨ad, x, rfl, hcx, hx, HX⟩ := (r1.below hb).word j hlt
        have hfz := hown.frozen j
        by_cases hjk : j < m2
        · obtain ⟨bd, y, rfl, hcy2, hy, HY⟩ := (r2.below hb).word j hjk
          obtain ⟨z, hcz, hz, _⟩ := hown.word j (by omega)
          go_wp2_with (first
            | (go_at_call 27; (refine (limbSub_any x y cy _ hx hy (by omega)).mono ?_); rintro e w' ⟨rfl, rfl⟩))
          have hnx := hdif.next (by rw [hown.len]; omega) HX HY.out hx hy
          go_roundw
          case rel => exact ⟨j + 1, _, _, by go_num, by omega, rfl, hown.set j _ hnx.1, hb.setCell hown.base_le _, hnx.2⟩
          case measure => simp [intOf]; omega
        · obtain ⟨z, hcz, hz, _⟩ := hown.word j (by omega)
          go_wp2_with (first
            | (go_at_call 27; (refine (limbSub_any x 0 cy _ hx (by omega) (by omega)).mono ?_); rintro e w' ⟨rfl, rfl⟩))
          have hnx := hdif.next (by rw [hown.len]; omega) HX (getD_ge vs j (by rw [r2.len]; omega)) hx (by omega)
          go_roundw
          case rel => exact ⟨j + 1, _, _, by go_num, by omega, rfl, hown.set j _ hnx.1, hb.setCell hown.base_le _, hnx.2⟩
          case measure => simp [intOf]; omega
      · obtain rfl : j = m1 := by omega
        have hv := hdif.last hown.ok hown.len r1.len (by rw [r2.len]; exact hle2) hle
        have HV := Lib.hid hv
        clear hv
        go_wp2_with (first
          | (go_at_call 71; (refine (trim_any _ _ _ _ _ hown.rd (by omega)).mono ?_); rintro e w' ⟨m, hm, hcan, rfl, rfl⟩; have HC := Lib.hid hcan; clear hcan))
        go_ret2
        have h := hown.rd.take m hm
        rw [HC.out, HV.out, V1.out, V2.out] at h
        exact ⟨_, _, _, rfl, h, hb⟩

theorem sub_split (a b : Nat) : (a ≤ b → a - b + (b - a) = b - a) ∧ (b ≤ a → a - b + (b - a) = a - b) := by omega
set_option maxHeartbeats 2000000 in
theorem gap_any (A B : Option Addr) (n c k d : Nat) (xs ys : List Nat) (w : World) (hr : Rd w A n c xs) (hs : Rd w B k d ys) (hn : n ≤ 35184372088831) (hk : k ≤ 35184372088831) :
    Calls Try.prog 48 #[.slice A n c, .slice B k d] w (Gives2 w (canon (V xs - V ys + (V ys - V xs))) (.int .i64 (cmpI (V xs) (V ys)))) := by
  by_cases hlt : V xs < V ys
  · rw [(sub_split _ _).1 (by omega)]
    have hneg := cmpI_neg.2 hlt
    go_enter Try.func48, Try.ntmps48
    go_wp2_with (first
      | (go_at_call 33; (refine (cmp_any _ _ _ _ _ _ _ _ _ hr hs (by omega) (by omega)).mono ?_); rintro e w' ⟨rfl, hd⟩)
      | (go_at_call 40; (refine (sub_any _ _ _ _ _ _ _ _ _ (hs.below hd.below) (hr.below hd.below) hk hn).mono ?_); rintro e w2 ⟨A2, n2, c2, rfl, hr2, hb2⟩))
    go_ret2
    exact ⟨_, _, _, rfl, hr2, below_next hd.below hb2⟩
  · rw [(sub_split _ _).2 (by omega)]
    have hpos : 0 ≤ cmpI (V xs) (V ys) := by
      have := cmpI_neg (a := V xs) (b := V ys)
      omega
    go_enter Try.func48, Try.ntmps48
    go_wp2_with (first
      | (go_at_call 33; (refine (cmp_any _ _ _ _ _ _ _ _ _ hr hs (by omega) (by omega)).mono ?_); rintro e w' ⟨rfl, hd⟩)
      | (go_at_call 40; (refine (sub_any _ _ _ _ _ _ _ _ _ (hr.below hd.below) (hs.below hd.below) hn hk).mono ?_); rintro e w2 ⟨A2, n2, c2, rfl, hr2, hb2⟩))
    go_ret2
    exact ⟨_, _, _, rfl, hr2, below_next hd.below hb2⟩
end Go.Proofs.Ythkblaodnfanfaa
