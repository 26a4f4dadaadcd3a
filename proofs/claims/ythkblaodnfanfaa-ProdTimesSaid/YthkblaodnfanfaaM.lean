/- Plain arithmetic of lists of 32-bit words: the value of a list, the one list without noughts at its end, and how both meet take, drop, set and append. -/
namespace Go.Proofs.Ythkblaodnfanfaa.M

/-- The value of a list of words, the lowest first. -/
def V : List Nat → Nat
  | [] => 0
  | x :: xs => x + 4294967296 * V xs

/-- The one list of words without noughts at its end that has this value. -/
def canon (n : Nat) : List Nat := if h : n = 0 then [] else n % 4294967296 :: canon (n / 4294967296)
termination_by n
decreasing_by omega

def Ok (xs : List Nat) : Prop := ∀ x ∈ xs, x < 4294967296

theorem canon_zero : canon 0 = [] := by rw [canon]; simp
theorem canon_pos {n : Nat} (h : n ≠ 0) : canon n = n % 4294967296 :: canon (n / 4294967296) := by
  rw [canon]; simp [h]

theorem Ok.nil : Ok [] := by intro x h; cases h
theorem Ok.cons {x : Nat} {xs : List Nat} (hx : x < 4294967296) (h : Ok xs) : Ok (x :: xs) := by
  intro y hy
  rcases List.mem_cons.1 hy with rfl | hy
  · exact hx
  · exact h y hy
theorem Ok.head {x : Nat} {xs : List Nat} (h : Ok (x :: xs)) : x < 4294967296 := h x (by simp)
theorem Ok.tail {x : Nat} {xs : List Nat} (h : Ok (x :: xs)) : Ok xs := fun y hy => h y (by simp [hy])
theorem Ok.append {xs ys : List Nat} (h : Ok xs) (k : Ok ys) : Ok (xs ++ ys) := by
  intro x hx
  rcases List.mem_append.1 hx with hx | hx
  · exact h x hx
  · exact k x hx
theorem Ok.take {xs : List Nat} (h : Ok xs) (n : Nat) : Ok (xs.take n) := fun x hx => h x (List.mem_of_mem_take hx)
theorem Ok.drop {xs : List Nat} (h : Ok xs) (n : Nat) : Ok (xs.drop n) := fun x hx => h x (List.mem_of_mem_drop hx)
theorem Ok.set {xs : List Nat} (h : Ok xs) (i x : Nat) (hx : x < 4294967296) : Ok (xs.set i x) := by
  intro y hy
  rcases List.mem_or_eq_of_mem_set hy with hy | rfl
  · exact h y hy
  · exact hx
theorem Ok.zeros (n : Nat) : Ok (List.replicate n 0) := by
  intro x hx
  obtain ⟨_, rfl⟩ := List.mem_replicate.1 hx
  omega
theorem Ok.at {xs : List Nat} (h : Ok xs) (i : Nat) : xs.getD i 0 < 4294967296 := by
  by_cases hi : i < xs.length
  · rw [List.getD_eq_getElem?_getD, List.getElem?_eq_getElem hi]
    exact h _ (List.getElem_mem hi)
  · rw [List.getD_eq_getElem?_getD, List.getElem?_eq_none (by omega)]
    simp
theorem Ok.get {xs : List Nat} (h : Ok xs) (i : Nat) (hi : i < xs.length) : xs[i] < 4294967296 := h _ (List.getElem_mem hi)

theorem canon_ok (n : Nat) : Ok (canon n) := by
  induction n using Nat.strongRecOn with
  | _ n ih =>
    by_cases h : n = 0
    · rw [h, canon_zero]; exact Ok.nil
    · rw [canon_pos h]; exact Ok.cons (by omega) (ih _ (by omega))
theorem V_canon (n : Nat) : V (canon n) = n := by
  induction n using Nat.strongRecOn with
  | _ n ih =>
    by_cases h : n = 0
    · rw [h, canon_zero]; rfl
    · rw [canon_pos h, V, ih _ (by omega)]; omega
theorem canon_inj {m n : Nat} (h : canon m = canon n) : m = n := by rw [← V_canon m, ← V_canon n, h]
theorem canon_eq_iff {m n : Nat} : canon m = canon n ↔ m = n := ⟨canon_inj, fun h => by rw [h]⟩

theorem V_append (xs ys : List Nat) : V (xs ++ ys) = V xs + 4294967296 ^ xs.length * V ys := by
  induction xs with
  | nil => simp [V]
  | cons x xs ih => simp only [List.cons_append, V, ih, List.length_cons, Nat.pow_succ, Nat.mul_add]; rw [Nat.mul_comm (4294967296 ^ xs.length) 4294967296, Nat.mul_assoc]; omega
theorem V_zeros (n : Nat) : V (List.replicate n 0) = 0 := by
  induction n with
  | zero => rfl
  | succ n ih => rw [List.replicate_succ, V, ih]
theorem V_append_zeros (xs : List Nat) (n : Nat) : V (xs ++ List.replicate n 0) = V xs := by rw [V_append, V_zeros]; simp
theorem V_single (x : Nat) : V [x] = x := by simp [V]
theorem V_cut (xs : List Nat) (k : Nat) (hk : k ≤ xs.length) : V xs = V (xs.take k) + 4294967296 ^ k * V (xs.drop k) := by
  have h := V_append (xs.take k) (xs.drop k)
  rw [List.take_append_drop, List.length_take, Nat.min_eq_left hk] at h
  exact h
theorem V_take_succ (xs : List Nat) (k : Nat) (hk : k < xs.length) : V (xs.take (k + 1)) = V (xs.take k) + 4294967296 ^ k * xs.getD k 0 := by
  rw [List.take_succ_eq_append_getElem hk, V_append, V_single, List.length_take, Nat.min_eq_left (by omega), List.getD_eq_getElem?_getD, List.getElem?_eq_getElem hk]
  rfl
theorem V_drop (xs : List Nat) (k : Nat) (hk : k < xs.length) : V (xs.drop k) = xs.getD k 0 + 4294967296 * V (xs.drop (k + 1)) := by
  rw [List.drop_eq_getElem_cons hk, V, List.getD_eq_getElem?_getD, List.getElem?_eq_getElem hk]
  rfl
theorem pow_pos (k : Nat) : 0 < 4294967296 ^ k := Nat.pow_pos (by omega)
theorem V_lt {xs : List Nat} (h : Ok xs) : V xs < 4294967296 ^ xs.length := by
  induction xs with
  | nil => simp [V]
  | cons x xs ih =>
    have := ih h.tail
    have := h.head
    rw [V, List.length_cons, Nat.pow_succ]
    omega
theorem V_set (xs : List Nat) (i x : Nat) (hi : i < xs.length) : V (xs.set i x) + 4294967296 ^ i * xs.getD i 0 = V xs + 4294967296 ^ i * x := by
  induction xs generalizing i with
  | nil => simp at hi
  | cons y ys ih =>
    cases i with
    | zero => simp [V]; omega
    | succ i =>
      have := ih i (by simpa using hi)
      simp only [List.set_cons_succ, V, List.getD_cons_succ, Nat.pow_succ]
      rw [Nat.mul_comm (4294967296 ^ i) 4294967296, Nat.mul_assoc, Nat.mul_assoc]
      omega
theorem getD_lt (xs : List Nat) (i : Nat) (hi : i < xs.length) : xs.getD i 0 = xs[i] := by
  rw [List.getD_eq_getElem?_getD, List.getElem?_eq_getElem hi]; rfl
theorem getD_ge (xs : List Nat) (i : Nat) (hi : xs.length ≤ i) : xs.getD i 0 = 0 := by
  rw [List.getD_eq_getElem?_getD, List.getElem?_eq_none hi]; rfl
theorem getD_set (xs : List Nat) (i j x : Nat) : (xs.set i x).getD j 0 = if i = j ∧ j < xs.length then x else xs.getD j 0 := by
  simp only [List.getD_eq_getElem?_getD, List.getElem?_set]
  by_cases h : i = j
  · subst h
    by_cases hj : i < xs.length
    · simp [hj]
    · simp [hj]
  · simp [h]
theorem getD_take (xs : List Nat) (n j : Nat) (h : j < n) : (xs.take n).getD j 0 = xs.getD j 0 := by
  simp only [List.getD_eq_getElem?_getD, List.getElem?_take, h, if_true]
theorem getD_drop (xs : List Nat) (n j : Nat) : (xs.drop n).getD j 0 = xs.getD (n + j) 0 := by
  simp only [List.getD_eq_getElem?_getD, List.getElem?_drop]
theorem getD_append_left (xs ys : List Nat) (j : Nat) (h : j < xs.length) : (xs ++ ys).getD j 0 = xs.getD j 0 := by
  simp only [List.getD_eq_getElem?_getD, List.getElem?_append, h, if_true]
theorem getD_append_right (xs ys : List Nat) (j : Nat) (h : xs.length ≤ j) : (xs ++ ys).getD j 0 = ys.getD (j - xs.length) 0 := by
  simp only [List.getD_eq_getElem?_getD, List.getElem?_append, Nat.not_lt.2 h, if_false]
theorem getD_zeros (n j : Nat) : (List.replicate n 0).getD j 0 = 0 := by
  simp only [List.getD_eq_getElem?_getD, List.getElem?_replicate]
  split <;> rfl

/-- Above n nothing but noughts: the first n words have the whole value. -/
theorem V_top_zeros (xs : List Nat) (h : ∀ j, xs.getD j 0 = 0) : V xs = 0 := by
  induction xs with
  | nil => rfl
  | cons x xs ih =>
    have h0 : x = 0 := h 0
    rw [V, ih (fun j => h (j + 1)), h0]
theorem V_take_top (xs : List Nat) (n : Nat) (hn : n ≤ xs.length) (h : ∀ j, n ≤ j → xs.getD j 0 = 0) : V (xs.take n) = V xs := by
  rw [V_cut xs n hn, V_top_zeros (xs.drop n) (fun j => by rw [getD_drop]; exact h _ (by omega))]
  simp
/-- A list whose last word isn't 0 is the right one. -/
theorem canon_of_top {xs : List Nat} (h : Ok xs) (ht : xs.length = 0 ∨ xs.getD (xs.length - 1) 0 ≠ 0) : canon (V xs) = xs := by
  induction xs with
  | nil => exact canon_zero
  | cons x xs ih =>
    have hx := h.head
    have ht' : xs.length = 0 ∨ xs.getD (xs.length - 1) 0 ≠ 0 := by
      rcases Nat.eq_zero_or_pos xs.length with h0 | h0
      · exact .inl h0
      · right
        rcases ht with ht | ht
        · simp at ht
        · have e : (x :: xs).length - 1 = (xs.length - 1) + 1 := by simp; omega
          rw [e, List.getD_cons_succ] at ht
          exact ht
    have hv : V (x :: xs) ≠ 0 := by
      rw [V]
      rcases ht with ht | ht
      · simp at ht
      · intro h0
        rcases Nat.eq_zero_or_pos xs.length with h1 | h1
        · have : xs = [] := List.length_eq_zero_iff.1 h1
          subst this
          simp at ht
          omega
        · have h2 : V xs = 0 := by omega
          have := ih h.tail ht'
          rw [h2, canon_zero] at this
          subst this
          simp at h1
    rw [canon_pos hv, V]
    have e1 : (x + 4294967296 * V xs) % 4294967296 = x := by omega
    have e2 : (x + 4294967296 * V xs) / 4294967296 = V xs := by omega
    rw [e1, e2, ih h.tail ht']
theorem canon_take {xs : List Nat} (h : Ok xs) (n : Nat) (hn : n ≤ xs.length) (hz : ∀ j, n ≤ j → xs.getD j 0 = 0) (ht : n = 0 ∨ xs.getD (n - 1) 0 ≠ 0) : xs.take n = canon (V xs) := by
  rw [← V_take_top xs n hn hz]
  refine (canon_of_top (h.take n) ?_).symm
  rw [List.length_take, Nat.min_eq_left hn]
  rcases ht with ht | ht
  · exact .inl ht
  · by_cases h0 : n = 0
    · exact .inl h0
    · rw [getD_take _ _ _ (by omega)]; exact .inr ht
theorem canon_length_le {n k : Nat} (h : n < 4294967296 ^ k) : (canon n).length ≤ k := by
  induction k generalizing n with
  | zero => have : n = 0 := by simpa using h
            rw [this, canon_zero]; simp
  | succ k ih =>
    by_cases h0 : n = 0
    · rw [h0, canon_zero]; simp
    · rw [canon_pos h0, List.length_cons]
      have := ih (n := n / 4294967296) (by rw [Nat.pow_succ] at h; exact Nat.div_lt_of_lt_mul (by rw [Nat.mul_comm]; exact h))
      omega
theorem canon_top (n : Nat) : (canon n).length = 0 ∨ (canon n).getD ((canon n).length - 1) 0 ≠ 0 := by
  induction n using Nat.strongRecOn with
  | _ n ih =>
    by_cases h : n = 0
    · rw [h, canon_zero]; exact .inl rfl
    · rw [canon_pos h]
      right
      rw [List.length_cons, Nat.add_sub_cancel]
      rcases Nat.eq_zero_or_pos (canon (n / 4294967296)).length with h0 | h0
      · have hc : canon (n / 4294967296) = [] := List.length_eq_zero_iff.1 h0
        rw [hc]
        have := V_canon (n / 4294967296)
        rw [hc, V] at this
        simp
        omega
      · rcases ih (n / 4294967296) (by omega) with h1 | h1
        · omega
        · have e : (canon (n / 4294967296)).length = ((canon (n / 4294967296)).length - 1) + 1 := by omega
          rw [e, List.getD_cons_succ]
          exact h1
theorem le_V_of_top {xs : List Nat} (k : Nat) (ht : xs.getD k 0 ≠ 0) : 4294967296 ^ k ≤ V xs := by
  have hk : k < xs.length := by
    apply Nat.lt_of_not_le
    intro h
    exact ht (getD_ge xs k h)
  rw [V_cut xs k (by omega), V_drop xs k hk]
  have : 4294967296 ^ k * 1 ≤ 4294967296 ^ k * (xs.getD k 0 + 4294967296 * V (xs.drop (k + 1))) := Nat.mul_le_mul_left _ (by omega)
  omega
/-- Two lists that are alike from k on, and differ below. -/
theorem V_drop_congr (xs ys : List Nat) (k : Nat) (h : ∀ j, k ≤ j → xs.getD j 0 = ys.getD j 0) : V (xs.drop k) = V (ys.drop k) := by
  have key : ∀ (as bs : List Nat), (∀ j, as.getD j 0 = bs.getD j 0) → V as = V bs := by
    intro as
    induction as with
    | nil => intro bs hb; rw [V_top_zeros bs (fun j => (hb j).symm)]; rfl
    | cons a as ih =>
      intro bs hb
      cases bs with
      | nil => rw [V_top_zeros (a :: as) hb]; rfl
      | cons b bs =>
        have h0 : a = b := hb 0
        rw [V, V, h0, ih bs (fun j => hb (j + 1))]
  exact key _ _ (fun j => by rw [getD_drop, getD_drop]; exact h _ (by omega))
theorem V_congr (xs ys : List Nat) (h : ∀ j, xs.getD j 0 = ys.getD j 0) : V xs = V ys := by
  have := V_drop_congr xs ys 0 (fun j _ => h j)
  simpa using this
theorem V_lt_of {xs ys : List Nat} (hx : Ok xs) (k : Nat) (h : ∀ j, k < j → xs.getD j 0 = ys.getD j 0) (hlt : xs.getD k 0 < ys.getD k 0) : V xs < V ys := by
  have hd := V_drop_congr xs ys (k + 1) (fun j hj => h j (by omega))
  have hk : k < ys.length := by
    apply Nat.lt_of_not_le
    intro hk
    rw [getD_ge ys k hk] at hlt
    omega
  rw [V_cut ys k (by omega), V_drop ys k hk]
  by_cases hkx : k < xs.length
  · rw [V_cut xs k (by omega), V_drop xs k hkx, hd]
    have h1 := V_lt (hx.take k)
    rw [List.length_take, Nat.min_eq_left (by omega)] at h1
    have h2 : 4294967296 ^ k * (xs.getD k 0 + 4294967296 * V (ys.drop (k + 1)) + 1) ≤ 4294967296 ^ k * (ys.getD k 0 + 4294967296 * V (ys.drop (k + 1))) := Nat.mul_le_mul_left _ (by omega)
    rw [Nat.mul_add _ _ 1] at h2
    omega
  · have h1 := V_lt hx
    have h2 : 4294967296 ^ xs.length ≤ 4294967296 ^ k := Nat.pow_le_pow_right (by omega) (by omega)
    have h3 : 4294967296 ^ k * 1 ≤ 4294967296 ^ k * (ys.getD k 0 + 4294967296 * V (ys.drop (k + 1))) := Nat.mul_le_mul_left _ (by omega)
    omega
end Go.Proofs.Ythkblaodnfanfaa.M
