/- Contracts of twos.Down and twos.Low. -/
import Derived.Test.YthkblaodnfanfaaT3
namespace Go.Proofs.Ythkblaodnfanfaa
open Go.RowKit M
attribute [local go_sem] max_ints min_ints

theorem down_rule (x y t : Nat) : ((x : Int) + (y : Int) * 4294967296) / 2 ^ (t % 32) % 4294967296 = (((x + 4294967296 * y) / 2 ^ (t % 32) % 4294967296 : Nat) : Int) := by
  have e : (x : Int) + (y : Int) * 4294967296 = ((x + 4294967296 * y : Nat) : Int) := by omega
  rw [e, div_cast]
  omega
theorem down_rule1 (x t : Nat) : (x : Int) / 2 ^ (t % 32) % 4294967296 = (((x + 4294967296 * 0) / 2 ^ (t % 32) % 4294967296 : Nat) : Int) := by
  rw [div_cast, Nat.mul_zero, Nat.add_zero]
  omega

set_option maxHeartbeats 2000000 in
theorem twosDown_any (A : Option Addr) (n c : Nat) (xs : List Nat) (i : Int) (w : World) (hr : Rd w A n c xs) (hn : n ≤ 35184372000000) (hi : i ≤ 9223372036854775807) :
    Calls Try.prog 59 #[.slice A n c, .int .i64 i] w (Gives w (canon (V xs / 2 ^ i.toNat))) := by
  obtain ⟨r, hr0⟩ : ∃ r, r = i.toNat := ⟨_, rfl⟩
  have h1 : mxI i 0 = (r : Int) := by rw [hr0]; exact mx_zero i
  have hrl : r ≤ 9223372036854775807 := by omega
  rw [← hr0]
  clear hr0
  by_cases hq : r / 32 < n
  · obtain ⟨m, hm1, hm2⟩ : ∃ m, r / 32 + m ≤ n ∧ n ≤ r / 32 + m := ⟨n - r / 32, by omega, by omega⟩
    go_enter Try.func59, Try.ntmps59
    go_wp2_with (first
      | (at_make; refine make_words _ rfl _ _ rfl _ m rfl rfl (by omega) (by omega) ?_; intro g w1 hown0 hb0))
    generalize List.replicate m 0 = O0 at hown0
    go_loopw [27] (fun vi wr => ∃ (k : Nat) (O : List Nat), vi = .int .i64 k ∧ k ≤ m ∧ Own wr w.heap.size g m m O ∧ Below w.heap.size w wr ∧ Downs xs O r k) (fun vi _ => m - (intOf vi).toNat)
    case atStart => exact ⟨0, _, rfl, by omega, hown0, hb0, Downs.first _ _ _⟩
    case round =>
      clear hown0 hb0
      obtain ⟨k, O, rfl, hk, hown, hb, hdn⟩ := hrel
      by_cases hlt : k < m
      · have hin : r / 32 + k < n := by omega
        obtain ⟨ad, x, rfl, hcx, hx, HX⟩ := (hr.below hb).word (r / 32 + k) hin
        obtain ⟨z, hcz, hz, HZ⟩ := hown.word k hlt
        have hf := hown.frozen k
        have hw := down_word xs r k hr.ok
        rw [HX.out] at hw
        by_cases h2 : r / 32 + k + 1 < n
        · obtain ⟨ad2, y, ead, hcy, hy, HY⟩ := (hr.below hb).word (r / 32 + k + 1) h2
          cases ead
          rw [HY.out] at hw
          have hcy2 : wr.cell? ⟨ad.block, ad.off + (r / 32 + k + 1), none⟩ = some (.int .u32 (y : Int)) := by simpa [Addr.add] using hcy
          have hnx := hdn.next (by rw [hown.len]; exact hlt) hw
          have rule := down_rule x y r
          have hor := or_high x y hx hy
          have hvl : (x + 4294967296 * y) / 2 ^ (r % 32) % 4294967296 < 4294967296 := Nat.mod_lt _ (by omega)
          generalize (x + 4294967296 * y) / 2 ^ (r % 32) % 4294967296 = v at *
          have HN := Lib.hid hnx
          clear hnx hw
          go_wp2
          go_roundw
          case rel => exact ⟨k + 1, _, by go_num, by omega, hown.set k v hvl, hb.setCell hown.base_le _, HN.out⟩
          case measure => simp [intOf]; omega
        · rw [getD_ge xs (r / 32 + k + 1) (by rw [hr.len]; omega)] at hw
          have hnx := hdn.next (by rw [hown.len]; exact hlt) hw
          have rule := down_rule1 x r
          have hvl : (x + 4294967296 * 0) / 2 ^ (r % 32) % 4294967296 < 4294967296 := Nat.mod_lt _ (by omega)
          generalize (x + 4294967296 * 0) / 2 ^ (r % 32) % 4294967296 = v at *
          have HN := Lib.hid hnx
          clear hnx hw
          go_wp2
          go_roundw
          case rel => exact ⟨k + 1, _, by go_num, by omega, hown.set k v hvl, hb.setCell hown.base_le _, HN.out⟩
          case measure => simp [intOf]; omega
      · obtain rfl : k = m := by omega
        have hv := hdn.last hr.ok hown.len (by rw [hr.len]; exact hm2)
        have HV := Lib.hid hv
        clear hv
        go_wp2_with fail
        refine (norm_any _ _ _ _ _ hown.rd (by omega)).mono ?_
        rintro e w2 ⟨A2, n2, c2, rfl, h2, b2⟩
        go_wp2
        go_ret
        rw [HV.out] at h2
        exact Gives.mk h2 (below_next hb b2)
  · have hz : V xs / 2 ^ r = 0 := Nat.div_eq_of_lt (V_lt_two hr.ok r (by rw [hr.len]; omega))
    rw [hz, canon_zero]
    go_enter Try.func59, Try.ntmps59
    go_wp2
    go_ret
    exact Gives.mk (Rd.nil _ _ _) (Below.refl _ _)

theorem low_rule (x t : Nat) (hx : x < 4294967296) : bits .and .u32 (x : Int) ((2 ^ (t % 32) - 1) % 4294967296) = ((x % 2 ^ (t % 32) : Nat) : Int) := by
  obtain ⟨p1, p2⟩ := pow_low t
  have e0 : ((2 : Int) ^ (t % 32)) = ((2 ^ (t % 32) : Nat) : Int) := by rw [Int.natCast_pow]; rfl
  have e : ((2 : Int) ^ (t % 32) - 1) % 4294967296 = 2 ^ (t % 32) - 1 := by rw [e0]; omega
  rw [e, bits_mask .u32 32 (by decide) (fun n a b => by rw [IntKind.wrap_u32]; omega) (t % 32) (by omega) (x : Int) (by omega) (by omega), Int.natCast_emod, Int.natCast_pow]
  rfl

set_option maxHeartbeats 2000000 in
theorem twosLow_any (A : Option Addr) (n c : Nat) (xs : List Nat) (i : Int) (w : World) (hr : Rd w A n c xs) (hn : n ≤ 35184372000000) (hi : i ≤ 9223372036854775807) :
    Calls Try.prog 61 #[.slice A n c, .int .i64 i] w (Gives w (canon (V xs % 2 ^ i.toNat))) := by
  obtain ⟨r, hr0⟩ : ∃ r, r = i.toNat := ⟨_, rfl⟩
  have h1 : mxI i 0 = (r : Int) := by rw [hr0]; exact mx_zero i
  have hrl : r ≤ 9223372036854775807 := by omega
  rw [← hr0]
  clear hr0
  by_cases hq : r / 32 < n
  · have hcut := cutTo A n c (r / 32 + 1) (by omega) hr.le
    rw [show ((r / 32 + 1 : Nat) : Int) = (r : Int) / 32 + 1 by omega] at hcut
    go_enter Try.func61, Try.ntmps61
    go_wp2_with (at_builtin; refine append_words _ rfl _ _ rfl w.heap.size _ A (r / 32 + 1) c (xs.take (r / 32 + 1)) rfl rfl (World.ownsRow_nil _ _ _ _) (hr.take _ (by omega)) (by omega) (Nat.le_refl _) ?_; intro A1 c1 w1 hr1 hown1 hb1)
    obtain ⟨g, rfl, hown⟩ := hown1 (by omega)
    obtain ⟨x, hcx, hx, HX⟩ := hown.word (r / 32) (by omega)
    have hf := hown.frozen (r / 32)
    have rule := low_rule x r hx
    have hv := low_words xs hr.ok r (by rw [hr.len]; exact hq)
    have hx2 : xs.getD (r / 32) 0 = x := by
      have := HX.out
      rwa [getD_take _ _ _ (by omega)] at this
    rw [hx2] at hv
    have hvl : x % 2 ^ (r % 32) < 4294967296 := Nat.lt_of_le_of_lt (Nat.mod_le _ _) hx
    generalize x % 2 ^ (r % 32) = v at *
    have hfin : V ((xs.take (r / 32 + 1)).set (r / 32) v) = V xs % 2 ^ r := by
      rw [← hv]
      have := P_set (xs.take (r / 32 + 1)) (r / 32) v (by rw [hown.len]; omega)
      rw [P_all _ _ (by rw [List.length_set, hown.len]; omega)] at this
      rw [this]
      unfold P
      rw [List.take_take, Nat.min_eq_left (by omega)]
    have HF := Lib.hid hfin
    clear hown1 hv hx2 hfin
    have hown2 := (hown.set (r / 32) v hvl).drew
    have hb2 := (hb1.setCell (p := ⟨g, r / 32, none⟩) hown.base_le (.int .u32 (v : Int))).drew
    go_region
    go_wp2_with fail
    refine (norm_any _ _ _ _ _ hown2.rd (by omega)).mono ?_
    rintro e w2 ⟨A2, n2, c2, rfl, h2, b2⟩
    go_wp2
    go_ret
    rw [HF.out] at h2
    exact Gives.mk h2 (below_next hb2 b2)
  · rw [Nat.mod_eq_of_lt (V_lt_two hr.ok r (by rw [hr.len]; omega))]
    go_enter Try.func61, Try.ntmps61
    go_wp2_with fail
    refine (norm_any _ _ _ _ _ hr (by omega)).mono ?_
    rintro e w2 ⟨A2, n2, c2, rfl, h2, b2⟩
    go_wp2
    go_ret
    exact Gives.mk h2 b2
end Go.Proofs.Ythkblaodnfanfaa
