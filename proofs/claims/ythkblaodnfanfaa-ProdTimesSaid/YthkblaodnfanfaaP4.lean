/- Contract of the document's Mul, word by word. -/
import Derived.Test.YthkblaodnfanfaaP3
import Derived.BigQuiet
namespace Go.Proofs.Ythkblaodnfanfaa
open Go.RowKit M

/-- One step of it, in numbers of 64 bits. -/
theorem wide_mul (x y o cy : Nat) (hx : x < 4294967296) (hy : y < 4294967296) (ho : o < 4294967296) (hc : cy < 4294967296) :
    ∃ s : Nat, (x : Int) * (y : Int) + (o : Int) ≤ 18446744073709551615 ∧ 0 ≤ (x : Int) * (y : Int) ∧ (cy : Int) + ((x : Int) * (y : Int) + (o : Int)) = (s : Int) ∧ s ≤ 18446744073709551615 ∧ s % 4294967296 = mulLo x y o cy ∧ s / 4294967296 = mulHi x y o cy := by
  have h : x * y ≤ 4294967295 * 4294967295 := Nat.mul_le_mul (by omega) (by omega)
  have e : (x : Int) * (y : Int) = ((x * y : Nat) : Int) := by rw [Int.natCast_mul]
  refine ⟨x * y + o + cy, ?_, ?_, ?_, by omega, rfl, rfl⟩
  · rw [e]; omega
  · rw [e]; omega
  · rw [e]; omega

set_option maxHeartbeats 4000000 in
theorem refMul2_any (A B : Option Addr) (n c k d : Nat) (xs ys : List Nat) (w : World) (hr : Rd w A n c xs) (hs : Rd w B k d ys) (hn : n ≤ 1000000) (hk : k ≤ 1000000) :
    Calls Try.prog 68 #[.slice A n c, .slice B k d] w (Gives w (canon (V xs * V ys))) := by
  go_enter Try.func68, Try.ntmps68
  go_wp2_with (first
    | (at_make; refine make_words _ rfl _ _ rfl _ (n + k) rfl rfl (by omega) (by omega) ?_; intro g w1 hown0 hb0))
  go_loopw [6] (fun vi wr => ∃ (j : Nat) (zs : List Nat), vi = .int .i64 j ∧ j ≤ n ∧ Own wr w.heap.size g (n + k) (n + k) zs ∧ Below w.heap.size w wr ∧ Muls ys xs zs k j) (fun vi _ => n - (intOf vi).toNat)
  case atStart => exact ⟨0, _, rfl, by omega, hown0, hb0, Muls.first _ _ _ _⟩
  case round =>
    clear hown0 hb0
    obtain ⟨j, zs, rfl, hj, hown, hb, hmul⟩ := hrel
    by_cases hlt : j < n
    · obtain ⟨ad, x, eA, hcx, hx, HX⟩ := (hr.below hb).word j hlt
      subst eA
      clear hcx
      have hpl : j + k < n + k := by omega
      go_wp2
      obtain ⟨wo, rfl⟩ : ∃ wo : World, wo = wr := ⟨_, rfl⟩
      go_loopw [7, 8] (fun vs vi wr => ∃ (i cy : Nat) (us : List Nat), vi = .int .i64 i ∧ i ≤ k ∧ vs = .int .u64 cy ∧ cy < 4294967296 ∧ Own wr w.heap.size g (n + k) (n + k) us ∧ Below w.heap.size w wr ∧ Rows1 ys zs us j x 0 i cy) (fun _ vi _ => k - (intOf vi).toNat)
      case atStart => exact ⟨0, 0, zs, rfl, by omega, rfl, by omega, hown, hb, Rows1.first _ _ _ _ _⟩
      case round =>
        clear hown hb
        obtain ⟨i, cy, us, rfl, hi, rfl, hcy, hown, hb, hrow⟩ := hrel
        by_cases hlt2 : i < k
        · obtain ⟨ad1, x1, eA, hcx, hx1, HX1⟩ := (hr.below hb).word j hlt
          cases eA
          have ex : x1 = x := by rw [← HX1.out, HX.out]
          subst ex
          obtain ⟨bd, y, rfl, hcy2, hy, HY⟩ := (hs.below hb).word i hlt2
          obtain ⟨o, hco, ho, HO⟩ := hown.word (j + i) (by omega)
          have hf := hown.frozen (j + i)
          have hnx := hrow.next (by rw [hown.len]; omega) HY.out HO.out
          have HN := Lib.hid hnx
          have hml := mulLo_lt x1 y o cy
          have hmh := mulHi_lt x1 y o cy hx hy ho hcy
          obtain ⟨s, s1, s2, s3, s4, s5, s6⟩ := wide_mul x1 y o cy hx hy ho hcy
          have r1 : (s : Int) % 4294967296 = (mulLo x1 y o cy : Int) := by omega
          have r2 : (s : Int) / 4294967296 = (mulHi x1 y o cy : Int) := by omega
          clear hnx s5 s6
          go_wp2
          go_quiet (fail)
          go_wp2
          go_roundw
          case rel => exact ⟨i + 1, _, _, by go_num, by omega, rfl, hmh, (hown.drewN nq).set (j + i) _ hml, (below_drewN hb nq).setCell hown.base_le _, HN.out⟩
          case measure => simp [intOf]; omega
        · obtain rfl : i = k := by omega
          obtain ⟨o, hco, ho, HO⟩ := hown.word (j + i) hpl
          have hf := hown.frozen (j + i)
          have hl := hrow.last (by rw [hown.len]; exact hpl) (by rw [hs.len]; exact Nat.le_refl _)
          have HM := Lib.hid (hmul.next HX.out hl.1 hl.2)
          clear hl
          go_wp2
          go_roundw
          case rel => exact ⟨j + 1, _, by go_num, by omega, hown.set (j + i) cy hcy, hb.setCell hown.base_le _, HM.out⟩
          case measure => simp [intOf]; omega
    · obtain rfl : j = n := by omega
      have HV := Lib.hid (hmul.last (by rw [hr.len]; exact Nat.le_refl _))
      go_wp2_with fail
      refine (refNorm_any _ _ _ _ _ hown.rd (by omega)).mono ?_
      rintro e w2 ⟨A2, n2, c2, rfl, h2, b2⟩
      go_wp2
      go_ret
      rw [HV.out, Nat.mul_comm] at h2
      exact Gives.mk h2 (below_next hb b2)
end Go.Proofs.Ythkblaodnfanfaa
