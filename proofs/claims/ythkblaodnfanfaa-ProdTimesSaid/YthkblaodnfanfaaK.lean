/- What a slice of words is good for in the model: 'Rd' (it reads as a list), 'Own' (a row of the call's own that is written), and the facts that the walks take. -/
import Derived.Test.YthkblaodnfanfaaProg
import Derived.Test.YthkblaodnfanfaaM
import Derived.Below
import Derived.WalkKit
import Derived.KernelRfl
import Derived.Tactics
import Derived.OwnWalk
import Derived.Laws.Slices
import Derived.Laws.MakeOwn
import Derived.Laws.OwnMore
import Derived.Laws.CopyOwn
import Derived.Deep.LoopGhost
import Derived.Deep.OwnRows
import Derived.Deep.QuietTactic
import Derived.BigQuiet
import Derived.RegionTactic
import Derived.Lib.Hide
import Derived.Outline
import Derived.Deep.DeepFit
namespace Go.Proofs.Ythkblaodnfanfaa
open Go.RowKit M

/-- The words of a list, as the model holds them. -/
def Ws (xs : List Nat) : List Value := xs.map fun x : Nat => Value.int .u32 (x : Int)
theorem Ws_length (xs : List Nat) : (Ws xs).length = xs.length := by simp [Ws]

theorem info22 : (Try.prog.info? 22).map (fun i => (i.zero, i.size, i.bytes)) = some (some (.int .u32 0), 1, 4) := by kernel_rfl

/-- A slice with this address, this length and this room reads as this list of words. -/
def Rd (w : World) (A : Option Addr) (n c : Nat) (xs : List Nat) : Prop :=
  xs.length = n ∧ n ≤ c ∧ Ok xs ∧ (0 < n → ∃ ad, A = some ad ∧ ∀ j, j < n → w.cell? (ad.add j) = some (.int .u32 ((xs.getD j 0 : Nat) : Int)))

theorem Rd.len {w : World} {A : Option Addr} {n c : Nat} {xs : List Nat} (h : Rd w A n c xs) : xs.length = n := h.1
theorem Rd.le {w : World} {A : Option Addr} {n c : Nat} {xs : List Nat} (h : Rd w A n c xs) : n ≤ c := h.2.1
theorem Rd.ok {w : World} {A : Option Addr} {n c : Nat} {xs : List Nat} (h : Rd w A n c xs) : Ok xs := h.2.2.1
theorem Rd.at {w : World} {A : Option Addr} {n c : Nat} {xs : List Nat} (h : Rd w A n c xs) (j : Nat) (hj : j < n) : ∃ ad, A = some ad ∧ w.cell? (ad.add j) = some (.int .u32 ((xs.getD j 0 : Nat) : Int)) := by
  obtain ⟨ad, e, hc⟩ := h.2.2.2 (by omega)
  exact ⟨ad, e, hc j hj⟩
/-- One word of it, as a letter. -/
theorem Rd.word {w : World} {A : Option Addr} {n c : Nat} {xs : List Nat} (h : Rd w A n c xs) (j : Nat) (hj : j < n) :
    ∃ (ad : Addr) (x : Nat), A = some ad ∧ w.cell? (ad.add j) = some (.int .u32 (x : Int)) ∧ x < 4294967296 ∧ Hid (xs.getD j 0 = x) := by
  obtain ⟨ad, e, hc⟩ := h.at j hj
  exact ⟨ad, _, e, hc, h.ok.at j, Lib.hid rfl⟩
theorem cell_below {w w1 : World} (h : Below w.heap.size w w1) {a : Addr} {v : Value} (hc : w.cell? a = some v) : w1.cell? a = some v := (h.cell (World.block_lt_of_cell? w a hc)).trans hc
theorem Rd.below {w w1 : World} {A : Option Addr} {n c : Nat} {xs : List Nat} (h : Rd w A n c xs) (hb : Below w.heap.size w w1) : Rd w1 A n c xs :=
  ⟨h.1, h.2.1, h.2.2.1, fun hn => by
    obtain ⟨ad, e, hc⟩ := h.2.2.2 hn
    exact ⟨ad, e, fun j hj => cell_below hb (hc j hj)⟩⟩
theorem Rd.nil (w : World) (A : Option Addr) (c : Nat) : Rd w A 0 c [] := ⟨rfl, Nat.zero_le _, Ok.nil, fun h => absurd h (by omega)⟩
theorem Rd.take {w : World} {A : Option Addr} {n c : Nat} {xs : List Nat} (h : Rd w A n c xs) (m : Nat) (hm : m ≤ n) : Rd w A m c (xs.take m) := by
  refine ⟨by rw [List.length_take, h.1]; omega, Nat.le_trans hm h.2.1, h.ok.take m, fun hp => ?_⟩
  obtain ⟨ad, e, hc⟩ := h.2.2.2 (by omega)
  exact ⟨ad, e, fun j hj => by rw [hc j (by omega), getD_take _ _ _ hj]⟩
theorem Rd.drop {w : World} {A : Option Addr} {n c : Nat} {xs : List Nat} (h : Rd w A n c xs) (m : Nat) (hm : m ≤ n) : Rd w (if c = m then A else A.map (·.add m)) (n - m) (c - m) (xs.drop m) := by
  refine ⟨by rw [List.length_drop, h.1], by have := h.2.1; omega, h.ok.drop m, fun hp => ?_⟩
  obtain ⟨ad, rfl, hc⟩ := h.2.2.2 (by omega)
  have hle := h.2.1
  rw [if_neg (by omega)]
  refine ⟨ad.add m, rfl, fun j hj => ?_⟩
  have ha : (ad.add m).add j = ad.add (m + j) := by
    unfold Addr.add
    by_cases h1 : m = 0 <;> by_cases h2 : j = 0 <;> simp [h1, h2, Nat.add_assoc]
  rw [ha, hc (m + j) (by omega), getD_drop]

/-- 's[:m]' ahead of a walk. -/
theorem cutTo (A : Option Addr) (n c m : Nat) (hm : m ≤ n) (hc : n ≤ c) :
    ∀ W : World, (Instr.slice 37 (.slice A n c) none (some (.int .i64 (m : Int))) none).run Try.prog W = .ok (.slice A m c) W := by
  intro W
  obtain ⟨i, hi, _, hsz, _⟩ := info_parts info22
  have hel : Try.prog.elem 37 = 22 := by simp [Program.elem, Try.underlying37]
  have hu : Try.prog.underlying 37 = some (.slice (Try.prog.elem 37)) := by rw [hel]; exact Try.underlying37
  have ha : (A.map fun x => x.add 0) = A := by cases A <;> simp [Addr.add]
  rw [run_slice_h W 37 A n c hu .i64 (m : Int) (Int.natCast_nonneg _) (by omega), hel]
  simp [sizeOf, typeInfo, hi, sliced, Result.andThen, ha]
/-- 's[m:]' ahead of a walk, its address a letter. -/
theorem cutFrom (A : Option Addr) (n c m : Nat) (hm : m ≤ n) :
    ∃ A' : Option Addr, (∀ W : World, (Instr.slice 37 (.slice A n c) (some (.int .i64 (m : Int))) none none).run Try.prog W = .ok (.slice A' (n - m) (c - m)) W) ∧
      ∀ (w : World) (xs : List Nat), Rd w A n c xs → Rd w A' (n - m) (c - m) (xs.drop m) := by
  refine ⟨if c = m then A else A.map (·.add m), fun W => ?_, fun w xs h => h.drop m hm⟩
  obtain ⟨i, hi, _, hsz, _⟩ := info_parts info22
  have hel : Try.prog.elem 37 = 22 := by simp [Program.elem, Try.underlying37]
  have hu : Try.prog.underlying 37 = some (.slice (Try.prog.elem 37)) := by rw [hel]; exact Try.underlying37
  rw [run_slice_l W 37 A n c hu .i64 (m : Int) (Int.natCast_nonneg _) (by omega), hel]
  simp [sizeOf, typeInfo, hi, hsz, sliced, Result.andThen]

/-- A row of the call's own: written, read, its length fixed. -/
def Own (w : World) (base g n c : Nat) (xs : List Nat) : Prop :=
  xs.length = n ∧ Ok xs ∧ w.ownsRow base 22 1 (.slice (some ⟨g, 0, none⟩) n c) n (Ws xs)
theorem Own.len {w : World} {base g n c : Nat} {xs : List Nat} (h : Own w base g n c xs) : xs.length = n := h.1
theorem Own.ok {w : World} {base g n c : Nat} {xs : List Nat} (h : Own w base g n c xs) : Ok xs := h.2.1
theorem add_plain (g j : Nat) : (⟨g, 0, none⟩ : Addr).add j = ⟨g, j, none⟩ := by unfold Addr.add; split <;> simp_all
theorem Own.cell {w : World} {base g n c : Nat} {xs : List Nat} (h : Own w base g n c xs) (j : Nat) (hj : j < n) : w.cell? ⟨g, j, none⟩ = some (.int .u32 ((xs.getD j 0 : Nat) : Int)) := by
  have hl := h.1
  rw [h.2.2.cellAt j (by omega)]
  simp only [Ws, List.getElem?_map, List.getD_eq_getElem?_getD, List.getElem?_eq_getElem (show j < xs.length by omega)]
  rfl
theorem Own.word {w : World} {base g n c : Nat} {xs : List Nat} (h : Own w base g n c xs) (j : Nat) (hj : j < n) :
    ∃ x : Nat, w.cell? ⟨g, j, none⟩ = some (.int .u32 (x : Int)) ∧ x < 4294967296 ∧ Hid (xs.getD j 0 = x) :=
  ⟨_, h.cell j hj, h.ok.at j, Lib.hid rfl⟩
theorem Own.frozen {w : World} {base g n c : Nat} {xs : List Nat} (h : Own w base g n c xs) (j : Nat) : w.frozen? ⟨g, j, none⟩ = false := h.2.2.frozenAt j
theorem Own.set {w : World} {base g n c : Nat} {xs : List Nat} (h : Own w base g n c xs) (j x : Nat) (hx : x < 4294967296) : Own (w.setCell ⟨g, j, none⟩ (.int .u32 (x : Int))) base g n c (xs.set j x) := by
  refine ⟨by rw [List.length_set]; exact h.1, h.2.1.set j x hx, ?_⟩
  have := (h.2.2.stored j (.int .u32 (x : Int))).1
  have e : (Ws xs).set j (.int .u32 (x : Int)) = Ws (xs.set j x) := by simp [Ws, List.map_set]
  rwa [e] at this
theorem Own.base_le {w : World} {base g n c : Nat} {xs : List Nat} (h : Own w base g n c xs) : base ≤ g := (h.2.2.lt g rfl).1
theorem Own.lt {w : World} {base g n c : Nat} {xs : List Nat} (h : Own w base g n c xs) : g < w.heap.size := (h.2.2.lt g rfl).2
theorem Own.le {w : World} {base g n c : Nat} {xs : List Nat} (h : Own w base g n c xs) : n ≤ c := by
  rcases h.2.2.2 with ⟨e, _⟩ | ⟨g', cap, cur, e, _, _, hle, _⟩
  · cases e
  · simp only [Value.slice.injEq] at e
    omega
theorem Own.rd {w : World} {base g n c : Nat} {xs : List Nat} (h : Own w base g n c xs) : Rd w (some ⟨g, 0, none⟩) n c xs :=
  ⟨h.1, h.le, h.2.1, fun _ => ⟨_, rfl, fun j hj => by rw [add_plain]; exact h.cell j hj⟩⟩
theorem Own.below {w w1 : World} {base g n c : Nat} {xs : List Nat} (h : Own w base g n c xs) (hb : Below w.heap.size w w1) : Own w1 base g n c xs :=
  ⟨h.1, h.2.1, h.2.2.kept (row := none) ⟨hb.os, hb.tape, hb.output, hb.size, fun i hi _ => hb.block i hi⟩ (by simp [Value.ownBlock])⟩
theorem Own.lower {w : World} {base base' g n c : Nat} {xs : List Nat} (h : Own w base g n c xs) (hb : base' ≤ base) : Own w base' g n c xs := by
  refine ⟨h.1, h.2.1, h.2.2.1, ?_⟩
  rcases h.2.2.2 with e | ⟨g', cap, cur, e, h1, r⟩
  · exact .inl e
  · exact .inr ⟨g', cap, cur, e, Nat.le_trans hb h1, r⟩
theorem Own.drewN {w : World} {base g n c : Nat} {xs : List Nat} (h : Own w base g n c xs) (k : Nat) : Own (w.drewN k) base g n c xs := h
theorem Own.drew {w : World} {base g n c : Nat} {xs : List Nat} (h : Own w base g n c xs) : Own w.drew base g n c xs := h
theorem below_drewN {B : Nat} {w W : World} (h : Below B w W) (n : Nat) : Below B w (W.drewN n) := ⟨h.os, h.tape, h.output, h.size, h.block⟩
/-- Below a world that lies below. -/
theorem below_then {B : Nat} {w w1 w2 : World} (h : Below B w w1) (hB : B ≤ w1.heap.size) (k : Below w1.heap.size w1 w2) : Below B w w2 :=
  h.trans (k.mono hB)
theorem below_next {w w1 w2 : World} (h : Below w.heap.size w w1) (k : Below w1.heap.size w1 w2) : Below w.heap.size w w2 := below_then h h.size k

/-- 'make([]uint32, m)' ahead of a walk. -/
theorem made (m : Nat) (hm : m ≤ 70368744177664) :
    ∀ W : World, (Instr.makeSlice 37 (.int .i64 (m : Int)) (.int .i64 (m : Int))).run Try.prog W = .ok (.slice (some ⟨W.heap.size, 0, none⟩) m m) (W.alloc (.cells (madeCells #[.int .u32 0] m) 22)) := by
  intro W
  exact run_make_row' 37 22 (.int .u32 0) 4 Try.underlying37 info22 rfl .i64 .i64 m (by omega) (by omega) W
theorem own_made (W : World) (base m : Nat) (hb : base ≤ W.heap.size) (hm : m ≤ 70368744177664) :
    Own (W.alloc (.cells (madeCells #[.int .u32 0] m) 22)) base W.heap.size m m (List.replicate m 0) := by
  refine ⟨by simp, Ok.zeros m, ?_⟩
  have h := World.ownsRow_lit (base := base) (e := 22) (size := 1) W (madeCells #[.int .u32 0] m) m hb (by simp only [maxLen]; omega) (by simp [size_madeCells])
  have hl : (madeCells #[Value.int .u32 0] m).toList = Ws (List.replicate m 0) := by
    apply List.ext_getElem
    · simp [Ws, madeCells]
    · intro i h1 h2
      simp [Ws, madeCells, Nat.mod_one]
  rwa [hl] at h

/-- 'make([]uint32, n)' as a law for the walk: the row's number is a letter. -/
theorem make_words (w : World) {ops : Array Oper} {rest : List Oper} {o : Oper} {a : Act} {Q : Exit → Act → World → Prop}
    (hg : o.guard = none) (l c : Operand) (hop : o.op = Op.makeSlice 37 l c) (L : Int) (n : Nat) (hl : a.eval l = .int .i64 L) (hc : a.eval c = .int .i64 L) (hL : L = (n : Int)) (hn : n ≤ 70368744177664)
    (hK : ∀ g w', Own w' w.heap.size g n n (List.replicate n 0) → Below w.heap.size w w' → wpList Try.prog ops Q rest (a.put o.dst (.slice (some ⟨g, 0, none⟩) n n)) w') :
    wpList Try.prog ops Q (o :: rest) a w := by
  refine wpList_plain hg fun K hK' => ?_
  have hrun := made n hn w
  subst hL
  unfold Oper.wp
  simp [execOp, hop, hl, hc, hrun, Result.andThen]
  exact hK' _ _ (hK _ _ (own_made w w.heap.size n (Nat.le_refl _) hn) ((Below.refl _ _).alloc (Nat.le_refl _) _))

/-- What a function does that hands back a slice in new memory, or a part of what it was given. -/
def Gives (w : World) (xs : List Nat) (e : Ending) (w' : World) : Prop :=
  ∃ A n c, e = .returned (.slice A n c) ∧ Rd w' A n c xs ∧ Below w.heap.size w w'
theorem Gives.mk {w w' : World} {xs : List Nat} {A : Option Addr} {n c : Nat} (h : Rd w' A n c xs) (hb : Below w.heap.size w w') : Gives w xs (.returned (.slice A n c)) w' := ⟨A, n, c, rfl, h, hb⟩
end Go.Proofs.Ythkblaodnfanfaa
