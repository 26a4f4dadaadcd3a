/- The law ProdAll, walked. -/
import Derived.Test.YthkblaodnfanfaaJ
namespace Go.Proofs.Ythkblaodnfanfaa
open Go.RowKit M

set_option maxHeartbeats 4000000 in
theorem prodAll_any (A : Option Addr) (n c : Nat) (L : List (List Nat)) (w : World) (hr : RdL w A n c L ∧ n ≤ 9223372036854775807) :
    Calls Try.prog 18 #[.slice A n c] w fun e w' => e = .returned (.bool true) ∧ Below w.heap.size w w' := by
  obtain ⟨hr, hn⟩ := hr
  go_enter Try.func18, Try.ntmps18
  go_wp2_with fail
  refine (long_any _ _ _ L 100 _ hr hn (by omega)).mono ?_
  rintro e w1 ⟨b, rfl, hb, rfl⟩
  cases b with
  | true =>
    clear hb
    go_wp2_with fail
    refine (works4 _).mono ?_
    rintro e w6 ⟨rfl, b6⟩
    go_wp2
    go_ret
    exact ⟨rfl, b6⟩
  | false =>
    obtain ⟨hL, hW⟩ := hb rfl
    have hoks : ∀ j, j < L.length → Ok (L.getD j []) := fun j hj => by
      obtain ⟨_, _, _, _, _, _, h⟩ := hr.at j (by rw [← hr.len]; exact hj)
      exact h.ok
    have HB := Lib.hid (prod_len L hoks 100 hW)
    have HF := Lib.hid (fun j (hj : j < L.length) => Nat.le_trans (words_at L j hj) hW)
    have hn2 : n ≤ 100 := by rw [← hr.len]; exact hL
    have HW := Lib.hid hW
    have H1 := Lib.hid (canon_word (n := 1) (by omega) (by omega))
    clear hb hoks hL hW
    go_wp2
    go_loopw [3, 4] (fun vs vi wr => ∃ (j : Nat) (A1 : Option Addr) (n1 c1 : Nat), vi = .int .i64 j ∧ j ≤ n ∧ vs = .slice A1 n1 c1 ∧ Rd wr A1 n1 c1 (canon (prodV (L.take j))) ∧ Below w.heap.size w wr) (fun _ vi _ => n - (intOf vi).toNat)
    case atStart => exact ⟨0, _, 1, 1, rfl, by omega, rfl, by rw [List.take_zero, prodV, H1.out]; exact rd_one w, below_new _ _⟩
    case round =>
      obtain ⟨j, A1, n1, c1, rfl, hj, rfl, hsum, hb⟩ := hrel
      by_cases hlt : j < n
      · obtain ⟨ad, A2, n2, c2, rfl, hcell, hr2⟩ := (hr.below hb).at j hlt
        have hn2 : n2 ≤ 100 := by rw [← hr2.len]; exact HF.out j (by rw [hr.len]; exact hlt)
        have hn1 : n1 ≤ 101 := by rw [← hsum.len]; exact HB.out j (by rw [hr.len]; omega)
        have HV := Lib.hid (prodV_take_succ L j (by rw [hr.len]; exact hlt))
        generalize L.getD j [] = ys at hr2 HV
        go_wp2_with fail
        refine (refMul2_any _ _ _ _ _ _ _ _ _ hsum hr2 (by omega) (by omega)).mono ?_
        rintro e w2 ⟨A4, n4, c4, rfl, hr4, hb4⟩
        rw [V_canon] at hr4
        go_wp2
        go_roundw
        case rel => exact ⟨j + 1, A4, n4, c4, by go_num, by omega, rfl, by rw [HV.out]; exact hr4, below_next hb hb4⟩
        case measure => simp [intOf]; omega
      · obtain rfl : j = n := by omega
        have hn1 : n1 ≤ 101 := by rw [← hsum.len]; exact HB.out j (by rw [hr.len]; omega)
        rw [List.take_of_length_le (by rw [hr.len]; omega)] at hsum
        go_wp2_with fail
        refine (all_any _ _ _ L _ (hr.below hb) (by omega) (by have := HW.out; omega)).mono ?_
        rintro e w3 ⟨A3, n3, c3, rfl, h3, b3⟩
        have m3 : n3 = n1 := by rw [← h3.len, ← hsum.len]
        have hm3 : n3 ≤ 101 := by omega
        clear m3
        go_wp2_with fail
        refine (same_any _ _ _ _ _ _ _ _ _ h3 (hsum.below b3) (by omega)).mono ?_
        rw [sameB_self]
        rintro e w4 ⟨rfl, d4⟩
        go_wp2_with fail
        refine (works4 _).mono ?_
        rintro e w6 ⟨rfl, b6⟩
        go_wp2
        go_ret
        exact ⟨rfl, below_next (below_next (below_next hb b3) d4.below) b6⟩
end Go.Proofs.Ythkblaodnfanfaa
