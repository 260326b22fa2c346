import Derived.Test.YtegajejaadkkiaaA
import Derived.Lib.Hide
namespace Go.Proofs.Ytegajejaadkkiaa
open Go.RowKit

/-- the world behind one call of Go: block g alone has turned (and blocks from B on). -/
structure Only (g : Nat) (w w' : World) : Prop where
  os : w'.os = w.os
  tape : w'.tape = w.tape
  output : w'.output = w.output
  size : w.heap.size ≤ w'.heap.size
  block : ∀ k, k < w.heap.size → k ≠ g → w'.heap[k]? = w.heap[k]?

theorem Only.refl (g : Nat) (w : World) : Only g w w := ⟨rfl, rfl, rfl, Nat.le_refl _, fun _ _ _ => rfl⟩
theorem Only.trans {g : Nat} {a b c : World} (h : Only g a b) (k : Only g b c) : Only g a c :=
  ⟨k.os.trans h.os, k.tape.trans h.tape, k.output.trans h.output, Nat.le_trans h.size k.size, fun i hi hn => (k.block i (Nat.lt_of_lt_of_le hi h.size) hn).trans (h.block i hi hn)⟩
theorem Only.alloc {g : Nat} {a w : World} (h : Only g a w) (o : Obj) : Only g a (w.alloc o) :=
  h.trans ⟨rfl, rfl, rfl, by simp, fun k hk _ => Below.heap_alloc _ _ _ (by omega)⟩
theorem Only.drew {g : Nat} {a w : World} (h : Only g a w) : Only g a w.drew := ⟨h.os, h.tape, h.output, h.size, h.block⟩
theorem Only.drewN {g : Nat} {a w : World} (h : Only g a w) (n : Nat) : Only g a (w.drewN n) := ⟨h.os, h.tape, h.output, h.size, h.block⟩
theorem Only.set {g : Nat} {a w : World} (h : Only g a w) (i : Nat) (n : Option Nat) (u : Value) : Only g a (w.setCell ⟨g, i, n⟩ u) :=
  h.trans ⟨rfl, rfl, rfl, by simp [World.setCell], fun k hk hn => Below.heap_setCell _ _ _ _ hn⟩



def mx (a b : Int) : Int := if a < b then b else a
theorem mx_def (a b : Int) : mx a b = max a b := by unfold mx; split <;> omega
theorem max2_mx (k k' : IntKind) (x y : Int) : Builtin.max2 (.int k x) (.int k' y) = pure (.int k (mx x y)) := by
  simp only [Builtin.max2, gt_iff_lt]; unfold mx; split <;> rfl
theorem max_two (ats : Array TypeId) (ty : TypeId) (a b : Value) : Builtin.max_ ats ty #[a, b] = (Builtin.max2 a b >>= fun s => pure s) := by
  simp only [Builtin.max_, List.foldlM_cons, List.foldlM_nil]

def stepO (S : Nat → Int) (n : Nat) (t : Int) (o : Nat) : Nat → Int :=
  if o = n then S else
  upd (upd (upd S (1 + n * 5 + o) (S (1 + n * 5 + o) + t)) (26 + n * 5 + o) (mx (S (26 + n * 5 + o)) (S (1 + n * 5 + o) + t))) (1 + o * 5 + n) (mx (S (1 + o * 5 + n) - S 0 * t) 0)

def goS (S : Nat → Int) (n : Nat) (t : Int) (k : Nat) : Nat → Int := (List.range k).foldl (fun S o => stepO S n t o) (upd S (51 + n) (S (51 + n) + t))

theorem goS_succ (S : Nat → Int) (n : Nat) (t : Int) (k : Nat) : goS S n t (k + 1) = stepO (goS S n t k) n t k := by
  simp [goS, List.range_succ]


theorem upd_bd {S : Nat → Int} {B : Int} {i : Nat} {x : Int} (h : ∀ j, j < 56 → 0 ≤ S j ∧ S j ≤ B) (hx : 0 ≤ x ∧ x ≤ B) : ∀ j, j < 56 → 0 ≤ upd S i x j ∧ upd S i x j ≤ B := by
  intro j hj
  unfold upd
  split
  · exact hx
  · exact h j hj

theorem upd_zero {S : Nat → Int} {i : Nat} {x : Int} (hi : 0 < i) : upd S i x 0 = S 0 := by
  unfold upd; rw [if_neg (by omega)]

theorem bd_mono {S : Nat → Int} {B B' : Int} (h : ∀ j, j < 56 → 0 ≤ S j ∧ S j ≤ B) (hB : B ≤ B') : ∀ j, j < 56 → 0 ≤ S j ∧ S j ≤ B' :=
  fun j hj => ⟨(h j hj).1, Int.le_trans (h j hj).2 hB⟩

theorem stepO_bd {S : Nat → Int} {B : Int} {n o : Nat} {t : Int} (hn : n < 5) (ho : o < 5) (ht : 0 ≤ t) (h : ∀ j, j < 56 → 0 ≤ S j ∧ S j ≤ B) :
    ∀ j, j < 56 → 0 ≤ stepO S n t o j ∧ stepO S n t o j ≤ B + t := by
  unfold stepO
  have h' := bd_mono h (show B ≤ B + t by omega)
  by_cases e : o = n
  · rw [if_pos e]; exact h'
  · rw [if_neg e]
    have h1 := h (1 + n * 5 + o) (by omega)
    have h2 := h (26 + n * 5 + o) (by omega)
    have h3 := h (1 + o * 5 + n) (by omega)
    have h0 := h 0 (by omega)
    have hm : 0 ≤ S 0 * t := Int.mul_nonneg h0.1 ht
    rw [mx_def, mx_def]
    exact upd_bd (upd_bd (upd_bd h' (by omega)) (by omega)) (by omega)

theorem goS_bd {S : Nat → Int} {B : Int} {n : Nat} {t : Int} (hn : n < 5) (ht : 0 ≤ t) (h : ∀ j, j < 56 → 0 ≤ S j ∧ S j ≤ B) :
    ∀ k : Nat, k ≤ 5 → ∀ j, j < 56 → 0 ≤ goS S n t k j ∧ goS S n t k j ≤ B + t + k * t := by
  intro k
  induction k with
  | zero => 
    intro _
    have h1 := h (51 + n) (by omega)
    exact bd_mono (upd_bd (bd_mono h (show B ≤ B + t by omega)) (by omega)) (by simp)
  | succ k ih =>
    intro hk
    rw [goS_succ]
    refine bd_mono (stepO_bd hn (by omega) ht (ih (by omega))) ?_
    have e : ((k + 1 : Nat) : Int) * t = k * t + t := by rw [Int.natCast_add, Int.add_mul]; simp
    omega

theorem goS_zero {S : Nat → Int} {n : Nat} {t : Int} : ∀ k : Nat, goS S n t k 0 = S 0 := by
  intro k
  induction k with
  | zero => exact upd_zero (by omega)
  | succ k ih =>
    rw [goS_succ]
    unfold stepO
    split
    · exact ih
    · rw [upd_zero (by omega), upd_zero (by omega), upd_zero (by omega), ih]

theorem Only.lt {g : Nat} {w w' : World} (h : Only g w w') (k : Nat) (hk : k < w.heap.size) (hn : k ≠ g) (i : Nat) : w'.cell? ⟨k, i, none⟩ = w.cell? ⟨k, i, none⟩ := by
  have := h.block k hk hn
  simp [World.cell?, this]

theorem IsR.drew {w : World} {g : Nat} {S : Nat → Int} (h : IsR w g S) : IsR w.drew g S := h

theorem cell_ne (w : World) (g b i j : Nat) (u : Value) (h : b ≠ g) : (w.setCell ⟨g, i, none⟩ u).cell? ⟨b, j, none⟩ = w.cell? ⟨b, j, none⟩ :=
  World.cell?_of_block (w := w) (Below.heap_setCell _ _ _ _ h)

attribute [local go_sem] max2_mx max_two in
set_option maxHeartbeats 2000000 in
set_option maxRecDepth 100000 in
theorem go_calls (g n : Nat) (t : Int) (S : Nat → Int) (w : World) (hI : IsR w g S) (hn : n < 5) (ht0 : 0 ≤ t) (ht : t ≤ 64) (hb : ∀ j, j < 56 → 0 ≤ S j ∧ S j ≤ 100000) (hr : S 0 ≤ 1000) :
    Calls Try.prog 5 #[.pointer (some ⟨g, 0, none⟩), .agg #[.int .i64 n, .int .i64 t]] w fun e w' => e = .returned (.tuple #[]) ∧ Only g w w' ∧ IsR w' g (goS S n t 5) := by
  have hs0 := (hb (51 + n) (by omega)).1
  have hs := (hb (51 + n) (by omega)).2
  have hr0 := (hb 0 (by omega)).1
  have hmt : mx t 0 = t := by rw [mx_def]; omega
  have hlt : g < w.heap.size := by
    obtain ⟨cs, h1, h2, h3⟩ := hI
    exact (Array.getElem?_eq_some_iff.1 h1).1
  have hI1 : IsR (w.alloc (.cells #[.int .i64 n, .int .i64 t] 29)) g S := by
    obtain ⟨cs, h1, h2, h3⟩ := hI
    exact ⟨cs, by rw [Below.heap_alloc _ _ _ hlt]; exact h1, h2, h3⟩
  have HB : ∀ k : Nat, k ≤ 5 → ∀ j, j < 56 → 0 ≤ goS S n t k j ∧ goS S n t k j ≤ 110000 := fun k hk => bd_mono (goS_bd hn ht0 hb k hk) (by
    have : (k : Int) * t ≤ 5 * 64 := Int.mul_le_mul (by omega) ht ht0 (by omega)
    omega)
  have HBh := Lib.hid HB
  clear HB
  have hbh := Lib.hid hb
  clear hb
  have hc := hI1.cell (51 + n) (by omega)
  have hf := hI1.frozen (51 + n)
  go_enter Try.func5, Try.ntmps5
  go_wp2
  go_quiet (fail)
  go_wp2
  generalize hW : (w.alloc (.cells #[.int .i64 n, .int .i64 t] 29)).drewN nq = W
  have hcn : W.cell? ⟨w.heap.size, 0, none⟩ = some (.int .i64 n) := by subst hW; go_simp
  have hct : W.cell? ⟨w.heap.size, 1, none⟩ = some (.int .i64 t) := by subst hW; go_simp
  have hI2 : IsR W g S := by subst hW; exact hI1
  have hO : Only g w W := by subst hW; exact ((Only.refl g w).alloc _).drewN _
  clear hc hf hI1 hI hW
  have hc := hI2.cell (51 + n) (by omega)
  have hf := hI2.frozen (51 + n)
  go_region
  go_wp2
  clear hc hf
  have hg : w.heap.size ≠ g := by omega
  go_loopw [5, 39] (fun _ i wr => ∃ o : Nat, o ≤ 5 ∧ i = .int .i64 o ∧ IsR wr g (goS S n t o) ∧ Only g w wr ∧ wr.cell? ⟨w.heap.size, 0, none⟩ = some (.int .i64 n)) (fun _ i _ => 5 - (intOf i).toNat)
  case atStart => 
    refine ⟨0, by omega, rfl, (hI2.set _ _).drew, (hO.set _ _ _).drew, ?_⟩
    rw [World.cell?_drew, ← hcn]
    exact cell_ne _ _ _ _ _ _ hg
  case round =>
    obtain ⟨o, ho, rfl, hI3, hO3, hcn3⟩ := hrel
    have HB := HBh.out o ho
    by_cases hlt : o < 5
    · by_cases hon : o = n
      · subst hon
        clear HB
        go_wp2
        go_roundw
        case rel => exact ⟨o + 1, by omega, by go_num, by rw [goS_succ, stepO, if_pos rfl]; exact hI3, hO3, hcn3⟩
        case measure => simp [intOf]; omega
      · have h1 := HB (1 + n * 5 + o) (by omega)
        have h2 := HB (26 + n * 5 + o) (by omega)
        have h3 := HB (1 + o * 5 + n) (by omega)
        clear HB
        have hc1 := hI3.cell (1 + n * 5 + o) (by omega)
        have hf1 := hI3.frozen (1 + n * 5 + o)
        go_wp2
        go_region
        go_wp2
        have e1 : goS S n t (o + 1) = upd (upd (upd (goS S n t o) (1 + n * 5 + o) (goS S n t o (1 + n * 5 + o) + t)) (26 + n * 5 + o) (mx (goS S n t o (26 + n * 5 + o)) (goS S n t o (1 + n * 5 + o) + t))) (1 + o * 5 + n) (mx (goS S n t o (1 + o * 5 + n) - goS S n t o 0 * t) 0) := by
          rw [goS_succ, stepO, if_neg hon]
        rw [goS_zero] at e1
        have hT0 := Lib.hid (goS_zero (S := S) (n := n) (t := t) o)
        have E1 := Lib.hid e1
        clear e1
        generalize goS S n t o = T at *
        clear hc1 hf1
        generalize hW2 : (wr.setCell ⟨g, 1 + n * 5 + o, none⟩ (.int .i64 (T (1 + n * 5 + o) + t))).drew = W2
        have hI4 : IsR W2 g (upd T (1 + n * 5 + o) (T (1 + n * 5 + o) + t)) := by subst hW2; exact (hI3.set _ _).drew
        have hO4 : Only g w W2 := by subst hW2; exact (hO3.set _ _ _).drew
        have hcn4 : W2.cell? ⟨w.heap.size, 0, none⟩ = some (.int .i64 n) := by subst hW2; rw [← hcn3]; exact cell_ne _ _ _ _ _ _ hg
        clear hW2 hI3 hO3 hcn3
        have hc1 := hI4.cell (1 + n * 5 + o) (by omega)
        have hc2 := hI4.cell (26 + n * 5 + o) (by omega)
        have hf2 := hI4.frozen (26 + n * 5 + o)
        rw [show upd T (1 + n * 5 + o) (T (1 + n * 5 + o) + t) (1 + n * 5 + o) = T (1 + n * 5 + o) + t from by simp [upd]] at hc1
        rw [show upd T (1 + n * 5 + o) (T (1 + n * 5 + o) + t) (26 + n * 5 + o) = T (26 + n * 5 + o) from by unfold upd; rw [if_neg (by omega)]] at hc2
        go_region
        go_wp2
        clear hc1 hc2 hf2
        generalize hW3 : (W2.setCell ⟨g, 26 + n * 5 + o, none⟩ (.int .i64 (mx (T (26 + n * 5 + o)) (T (1 + n * 5 + o) + t)))).drew = W3
        have hI5 : IsR W3 g (upd (upd T (1 + n * 5 + o) (T (1 + n * 5 + o) + t)) (26 + n * 5 + o) (mx (T (26 + n * 5 + o)) (T (1 + n * 5 + o) + t))) := by subst hW3; exact (hI4.set _ _).drew
        have hO5 : Only g w W3 := by subst hW3; exact (hO4.set _ _ _).drew
        have hcn5 : W3.cell? ⟨w.heap.size, 0, none⟩ = some (.int .i64 n) := by subst hW3; rw [← hcn4]; exact cell_ne _ _ _ _ _ _ hg
        clear hW3 hI4 hO4 hcn4
        have hc1 := hI5.cell (1 + o * 5 + n) (by omega)
        have hf2 := hI5.frozen (1 + o * 5 + n)
        have hc0 := hI5.cell 0 (by omega)
        rw [show upd (upd T (1 + n * 5 + o) (T (1 + n * 5 + o) + t)) (26 + n * 5 + o) (mx (T (26 + n * 5 + o)) (T (1 + n * 5 + o) + t)) (1 + o * 5 + n) = T (1 + o * 5 + n) from by
          unfold upd; rw [if_neg (by omega), if_neg (by omega)]] at hc1
        rw [upd_zero (by omega), upd_zero (by omega)] at hc0
        rw [hT0.out] at hc0
        have hp0 : 0 ≤ S 0 * t := Int.mul_nonneg hr0 ht0
        have hp1 : S 0 * t ≤ 64000 := by
          have := Int.mul_le_mul hr ht ht0 (by omega)
          omega
        go_region
        go_wp2
        go_roundw
        case rel => exact ⟨o + 1, by omega, by go_num, by rw [E1.out]; exact (hI5.set _ _).drew, (hO5.set _ _ _).drew, by rw [← hcn5]; exact cell_ne _ _ _ _ _ _ hg⟩
        case measure => simp [intOf]; omega
    · obtain rfl : o = 5 := by omega
      clear HB
      go_wp2
      go_end0
      exact ⟨rfl, hO3, hI3⟩
end Go.Proofs.Ytegajejaadkkiaa
