import Derived.Test.YtegajejaadkkiaaRows
import Derived.WalkKit
import Derived.WalkSpells
import Derived.WalkLawsBesides
import Derived.BigRegion
import Derived.BigQuiet
import Derived.Deep.QuietTactic
namespace Go.Proofs.Ytegajejaadkkiaa
open Go.RowKit

def IsR (w : World) (g : Nat) (S : Nat → Int) : Prop := ∃ cs : Array Value, w.heap[g]? = some (.cells cs 44 (0,0)) ∧ cs.size = 56 ∧ ∀ i, i < 56 → cs[i]? = some (.int .i64 (S i))

theorem IsR.cell {w : World} {g : Nat} {S : Nat → Int} (h : IsR w g S) (i : Nat) (hi : i < 56) : w.cell? ⟨g, i, none⟩ = some (.int .i64 (S i)) := by
  obtain ⟨cs, h1, h2, h3⟩ := h
  simp [World.cell?, h1, h3 i hi]
theorem IsR.frozen {w : World} {g : Nat} {S : Nat → Int} (h : IsR w g S) (i : Nat) : w.frozen? ⟨g, i, none⟩ = false := by
  obtain ⟨cs, h1, h2, h3⟩ := h
  simp [World.frozen?, h1]

def upd (S : Nat → Int) (i : Nat) (x : Int) : Nat → Int := fun j => if j = i then x else S j

theorem IsR.set {w : World} {g : Nat} {S : Nat → Int} (h : IsR w g S) (i : Nat) (x : Int) : IsR (w.setCell ⟨g, i, none⟩ (.int .i64 x)) g (upd S i x) := by
  obtain ⟨cs, h1, h2, h3⟩ := h
  refine ⟨cs.setIfInBounds i (.int .i64 x), ?_, by simp [h2], ?_⟩
  · simp [World.setCell, Array.getElem?_modify, h1]
  · intro j hj
    by_cases e : i = j
    · subst e; simp [upd, h2, hj]
    · rw [Array.getElem?_setIfInBounds, if_neg e, h3 j hj]; simp [upd, Ne.symm e]


set_option maxHeartbeats 400000 in
theorem ahead_calls (g : Nat) (a b : Int) (S : Nat → Int) (w : World) (hI : IsR w g S) (ha : 0 ≤ a) (ha5 : a < 5) (hb : 0 ≤ b) (hb5 : b < 5) :
    Calls Try.prog 7 #[.pointer (some ⟨g, 0, none⟩), .int .i64 a, .int .i64 b] w fun e w' => e = .returned (.int .i64 (S (26 + a.toNat * 5 + b.toNat))) ∧ w = w' := by
  have hc := hI.cell (26 + a.toNat * 5 + b.toNat) (by omega)
  clear hI
  go_enter Try.func7, Try.ntmps7
  go_wp2
  go_ret
  exact ⟨rfl, rfl⟩

set_option maxHeartbeats 400000 in
theorem ahead_out (g : Nat) (w : World) :
    Calls Try.prog 7 #[.pointer (some ⟨g, 0, none⟩), .int .i64 0, .int .i64 5] w fun e w' => e = .returned (.int .i64 0) ∧ w = w' := by
  go_enter Try.func7, Try.ntmps7
  go_wp2
  go_ret
  exact ⟨rfl, rfl⟩

def inB (S : Nat → Int) (sl : Int) (m : Nat) : Bool := decide (∀ a, a < m → ∀ b, b < m → S (26 + a * 5 + b) ≤ sl)


theorem inB_true {S : Nat → Int} {sl : Int} {m : Nat} (h : ∀ x, x < m → ∀ y, y < m → S (26 + x * 5 + y) ≤ sl) : inB S sl m = true := decide_eq_true h
theorem inB_false {S : Nat → Int} {sl : Int} {m a b : Nat} (ha : a < m) (hb : b < m) (h : ¬ S (26 + a * 5 + b) ≤ sl) : inB S sl m = false :=
  decide_eq_false fun k => h (k a ha b hb)
theorem ret_bool {a b : Bool} (h : a = b) : Ending.returned (.bool a) = .returned (.bool b) := by rw [h]

set_option maxHeartbeats 400000 in
theorem within_calls (g : Nat) (sl : Int) (m : Nat) (S : Nat → Int) (w : World) (hI : IsR w g S) (hm : m ≤ 5) :
    Calls Try.prog 8 #[.pointer (some ⟨g, 0, none⟩), .int .i64 sl, .int .i64 m] w fun e w' => e = .returned (.bool (inB S sl m)) ∧ w = w' := by
  go_enter Try.func8, Try.ntmps8
  go_wp2
  go_loop [7, 8, 12, 18] (fun _ _ i _ => ∃ a : Nat, a ≤ m ∧ i = .int .i64 a ∧ ∀ x, x < a → ∀ y, y < m → S (26 + x * 5 + y) ≤ sl) (fun _ _ i _ => m - (intOf i).toNat)
  case atStart => exact ⟨0, by omega, rfl, by omega⟩
  case round =>
    obtain ⟨a, ha, rfl, hal⟩ := hrel
    by_cases hlt : a < m
    · go_wp2
      go_loop [8, 18] (fun _ j => ∃ b : Nat, b ≤ m ∧ j = .int .i64 b ∧ ∀ y, y < b → S (26 + a * 5 + y) ≤ sl) (fun _ j => m - (intOf j).toNat)
      case atStart => exact ⟨0, by omega, rfl, by omega⟩
      case round =>
        obtain ⟨b, hb, rfl, hbl⟩ := hrel
        by_cases hlt2 : b < m
        · have hc := hI.cell (26 + a * 5 + b) (by omega)
          by_cases hgt : S (26 + a * 5 + b) ≤ sl
          · have hgt' : ¬ sl < S (26 + a * 5 + b) := by omega
            go_wp2
            go_round
            case rel => 
              refine ⟨b + 1, by omega, by go_num, fun y hy => ?_⟩
              rcases Nat.lt_succ_iff_lt_or_eq.1 hy with h | rfl
              · exact hbl y h
              · exact hgt
            case measure => simp [intOf]; omega
          · have hgt' : sl < S (26 + a * 5 + b) := by omega
            go_wp2
            go_ret
            exact ⟨ret_bool (inB_false hlt hlt2 (by omega)).symm, rfl⟩
        · obtain rfl : b = m := by omega
          go_wp2
          go_round
          case rel => 
            refine ⟨a + 1, by omega, by go_num, fun x hx => ?_⟩
            rcases Nat.lt_succ_iff_lt_or_eq.1 hx with h | rfl
            · exact hal x h
            · exact hbl
          case measure => simp [intOf]; omega
    · obtain rfl : a = m := by omega
      go_wp2
      go_ret
      exact ⟨ret_bool (inB_true hal).symm, rfl⟩
end Go.Proofs.Ytegajejaadkkiaa
