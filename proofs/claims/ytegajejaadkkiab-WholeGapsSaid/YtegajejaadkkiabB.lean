import Derived.Test.YtegajejaadkkiabA
namespace Go.Proofs.Ytegajejaadkkiab
open Go.RowKit

theorem dig_get (n : Nat) : ∀ k : Nat, k < (dig n).length → (dig n).getD k 0 = n / 128 ^ k % 128 := by
  induction n using Nat.strongRecOn with
  | _ n ih =>
    intro k hk
    by_cases h : n < 128
    · rw [dig_small h] at hk ⊢
      simp at hk; subst hk
      simp; omega
    · rw [dig_big h] at hk ⊢
      cases k with
      | zero => simp
      | succ k =>
        have := ih (n / 128) (by omega) k (by simpa using hk)
        rw [List.getD_cons_succ, this, Nat.pow_succ, Nat.mul_comm, ← Nat.div_div_eq_div_mul]

theorem dig_more (n : Nat) : ∀ k : Nat, 1 ≤ k → (0 < n / 128 ^ k ↔ k < (dig n).length) := by
  induction n using Nat.strongRecOn with
  | _ n ih =>
    intro k hk
    by_cases h : n < 128
    · rw [dig_small h]
      have h1 : 128 ≤ 128 ^ k := by
        calc 128 = 128 ^ 1 := by simp
          _ ≤ 128 ^ k := Nat.pow_le_pow_right (by omega) hk
      have : n / 128 ^ k = 0 := Nat.div_eq_of_lt (by omega)
      rw [this]; simp; omega
    · rw [dig_big h]
      obtain ⟨j, rfl⟩ : ∃ j, k = j + 1 := ⟨k - 1, by omega⟩
      rw [Nat.pow_succ, Nat.mul_comm, ← Nat.div_div_eq_div_mul]
      cases j with
      | zero => 
        simp only [Nat.pow_zero, Nat.div_one, List.length_cons]
        have := List.length_pos_iff.2 (dig_ne (n / 128))
        omega
      | succ j =>
        rw [ih (n / 128) (by omega) (j + 1) (by omega)]
        simp

theorem pow_128 (k : Nat) : (2 : Int) ^ (7 * k) = ((128 ^ k : Nat) : Int) := by
  rw [show (128 : Nat) = 2 ^ 7 by decide, ← Nat.pow_mul]
  exact (Int.natCast_pow 2 (7 * k)).symm

/-- the bytes from the highest down to place j. -/
def parts (n j : Nat) : List Int := if j = 0 then enc n else ((dig n).drop j).reverse.map fun d : Nat => (d : Int) + 128
theorem parts_zero (n : Nat) : parts n 0 = enc n := rfl
theorem parts_all (n : Nat) : parts n (dig n).length = [] := by
  unfold parts
  rw [if_neg (by have := List.length_pos_iff.2 (dig_ne n); omega)]
  simp
theorem parts_last (n : Nat) : parts n 0 = parts n 1 ++ [(((dig n).getD 0 0 : Nat) : Int)] := by
  unfold parts
  rw [if_pos rfl, if_neg (by omega), List.drop_one, enc]
  congr 3
  cases dig n <;> rfl
theorem parts_step (n i : Nat) (hi : 0 < i) (hl : i < (dig n).length) : parts n i = parts n (i + 1) ++ [(((dig n).getD i 0 : Nat) : Int) + 128] := by
  unfold parts
  rw [if_neg (by omega), if_neg (by omega), List.drop_eq_getElem_cons hl, List.reverse_cons, List.map_append, List.getD_eq_getElem?_getD, List.getElem?_eq_getElem hl]
  rfl
theorem enc_len (n : Nat) : (enc n).length = (dig n).length := by
  unfold enc
  have := List.length_pos_iff.2 (dig_ne n)
  simp; omega
theorem parts_len (n j : Nat) : (parts n j).length ≤ (dig n).length := by
  unfold parts
  split
  · rw [enc_len]; omega
  · simp

/-- its own block is the elder one's, or a new one. -/
def Fr (w : World) (v v' : Value) : Prop := ∀ q, v'.ownBlock = some q → v.ownBlock = some q ∨ w.heap.size ≤ q
theorem Fr.step {w w1 : World} {v v1 v2 : Value} (h : Fr w v v1) (hs : w.heap.size ≤ w1.heap.size) (hat : v2.ownBlock = v1.ownBlock ∨ v2.ownBlock = none ∨ ∃ q, v2.ownBlock = some q ∧ w1.heap.size ≤ q) : Fr w v v2 := fun q hq => by
  rcases hat with e | e | ⟨r, e, hr⟩
  · exact h q (e ▸ hq)
  · rw [e] at hq; cases hq
  · rw [e] at hq; cases hq; exact .inr (by omega)

/-- what sevens hands back: a row of its own. -/
def RetE (w : World) (row : Option Nat) (X : List Int) (e : Ending) (w' : World) : Prop := ∃ v', e = .returned v' ∧ DB w w' row v' X ∧ OwnR w w' row v' X

set_option maxHeartbeats 1000000 in
set_option maxRecDepth 100000 in
theorem sevens_calls (row : Option Nat) (v : Value) (xs : List Int) (n : Nat) (w : World) (hd : DB w w row v xs) (hn : n < 2 ^ 62) (hx : xs.length ≤ 900000) :
    Calls Try.prog 6 #[v, .int .i64 n] w (RetE w row (xs ++ enc n)) := by
  have hn' : (n : Int) < 4611686018427387904 := by
    have : (2 : Nat) ^ 62 = 4611686018427387904 := by decide
    omega
  have hlen9 := dig_len 9 n (by have e : (2 : Nat) ^ 62 = 4611686018427387904 := by decide
                                have e2 : (128 : Nat) ^ 9 = 9223372036854775808 := by decide
                                omega) (by omega)
  go_enter Try.func6, Try.ntmps6
  go_wp2
  go_loop [5] (fun lv => ∃ k : Nat, 1 ≤ k ∧ k ≤ (dig n).length ∧ lv = .int .i64 k) (fun lv => 10 - (intOf lv).toNat)
  case atStart => exact ⟨1, by omega, List.length_pos_iff.2 (dig_ne n), rfl⟩
  case round =>
    obtain ⟨k, hk1, hk2, rfl⟩ := hrel
    have hm := Lib.hid (dig_more n k hk1)
    have hleq : ¬ k < (dig n).length → k = (dig n).length := by omega
    by_cases hmore : k < (dig n).length
    · have h9 : k < 9 := by omega
      have h9b : decide ((k : Int) < 9) = true := by simp; omega
      obtain ⟨y, hy⟩ : ∃ y : Int, 7 * (k : Int) = y := ⟨_, rfl⟩
      have hy0 : 0 ≤ y := by omega
      have hy1 : y ≤ 63 := by omega
      obtain ⟨q, hq⟩ : ∃ q : Int, (n : Int) / 2 ^ y.toNat = q := ⟨_, rfl⟩
      have hqv := Lib.hid (show q = ((n / 128 ^ k : Nat) : Int) by
        rw [← hq, ← hy, show (7 * (k : Int)).toNat = 7 * k by omega, pow_128]; exact (Int.natCast_ediv _ _).symm)
      have hpos : 0 < q := by have := hm.out.2 hmore; rw [hqv.out]; exact_mod_cast this
      go_wp2
      go_round
      case rel => exact ⟨k + 1, by omega, by omega, by go_num⟩
      case measure => simp [intOf]; omega
    · obtain rfl := hleq hmore
      have hd0 := Lib.hid hd
      clear hd hk2 hleq
      by_cases h9 : (dig n).length < 9
      · have h9b : decide (((dig n).length : Int) < 9) = true := by simp; omega
        obtain ⟨y, hy⟩ : ∃ y : Int, 7 * ((dig n).length : Int) = y := ⟨_, rfl⟩
        have hy0 : 0 ≤ y := by omega
        have hy1 : y ≤ 63 := by omega
        have hq : (n : Int) / 2 ^ y.toNat = 0 := by
          rw [← hy, show (7 * ((dig n).length : Int)).toNat = 7 * (dig n).length by omega, pow_128]
          have h0 : n / 128 ^ (dig n).length = 0 := Nat.eq_zero_of_not_pos (mt hm.out.1 hmore)
          have h1 := Int.natCast_ediv n (128 ^ (dig n).length)
          rw [h0] at h1
          exact h1.symm
        go_wp2
        generalize hL : (dig n).length = L at *
        have HL := Lib.hid hL
        clear hL
        go_loopw [0, 6, 7] (fun vv iv _ wr => ∃ (j : Nat) (X : List Int), j ≤ L ∧ iv = .int .i64 (j - 1) ∧ DB w wr row vv X ∧ Hid (X = xs ++ parts n j) ∧ (j < L → OwnR w wr row vv X)) (fun _ iv _ _ => (intOf iv + 1).toNat)
        case atStart => exact ⟨L, xs, Nat.le_refl _, rfl, hd0.out, by rw [Hid, ← HL.out, parts_all]; simp, fun h => absurd h (Nat.lt_irrefl _)⟩
        case round =>
          obtain ⟨j, X, hj, rfl, hd1, HX, hown⟩ := hrel
          have hXl : X.length ≤ 900010 := by
            rw [HX.out, List.length_append]
            have := parts_len n j
            rw [HL.out] at this
            omega
          cases j with
          | zero =>
            go_wp2
            go_ret
            exact ⟨_, rfl, by rw [← parts_zero, ← HX.out]; exact hd1, by rw [← parts_zero, ← HX.out]; exact hown (by have := List.length_pos_iff.2 (dig_ne n); rw [HL.out] at this; omega)⟩
          | succ i =>
            have hi1 : (((i + 1 : Nat) : Int) - 1) = (i : Int) := by omega
            by_cases hi0 : i = 0
            · subst hi0
              have hand := and_127 n (by omega) (by omega)
              obtain ⟨d, hd2⟩ : ∃ d : Nat, (n : Int) % 128 = (d : Int) := ⟨n % 128, by omega⟩
              have hd128 : d < 128 := by omega
              have hdv := Lib.hid (show d = (dig n).getD 0 0 by rw [dig_get n 0 (by rw [HL.out]; omega)]; simp; omega)
              go_wp2_with (at_builtin; refine DB.append rfl _ _ rfl u0 _ rfl hd1 _ _ rfl ?c1 ?_)
              case c1 => omega
              intro v' w2 hl2 _ _ hown2
              go_wp2
              go_roundw
              case rel => exact ⟨0, _, by omega, by go_num, hl2, by rw [Hid, HX.out, parts_last, hdv.out, List.append_assoc], fun _ => hown2⟩
              case measure => simp [intOf]
            · have hi0' : 0 < i := by omega
              obtain ⟨y2, hy2⟩ : ∃ y : Int, 7 * (i : Int) = y := ⟨_, rfl⟩
              have hy20 : 0 ≤ y2 := by omega
              have hy21 : y2 ≤ 63 := by omega
              obtain ⟨qn, hqn⟩ : ∃ qn : Nat, Hid (n / 128 ^ i = qn) := ⟨_, rfl⟩
              have hq2 : (n : Int) / 2 ^ y2.toNat = (qn : Int) := by
                rw [← hqn.out, ← hy2, show (7 * (i : Int)).toNat = 7 * i by omega, pow_128]; exact (Int.natCast_ediv _ _).symm
              have hqle : qn ≤ n := by rw [← hqn.out]; exact Nat.div_le_self _ _
              have hand := and_127 qn (by omega) (by omega)
              obtain ⟨d, hd2⟩ : ∃ d : Nat, (qn : Int) % 128 = (d : Int) := ⟨qn % 128, by omega⟩
              have hd128 : d < 128 := by omega
              have hdv := Lib.hid (show d = (dig n).getD i 0 by rw [dig_get n i (by rw [HL.out]; omega), hqn.out]; omega)
              have hor := or_128 d hd128
              go_wp2_with (at_builtin; refine DB.append rfl _ _ rfl u0 _ rfl hd1 _ _ rfl ?c1 ?_)
              case c1 => omega
              intro v' w2 hl2 _ _ hown2
              go_wp2
              go_roundw
              case rel => exact ⟨i, _, by omega, by go_num, hl2, by rw [Hid, HX.out, parts_step n i hi0' (by rw [HL.out]; omega), hdv.out, List.append_assoc], fun _ => hown2⟩
              case measure => simp [intOf]
      · have h9b : decide (((dig n).length : Int) < 9) = false := by simp; omega
        go_wp2
        generalize hL : (dig n).length = L at *
        have HL := Lib.hid hL
        clear hL
        go_loopw [0, 6, 7] (fun vv iv _ wr => ∃ (j : Nat) (X : List Int), j ≤ L ∧ iv = .int .i64 (j - 1) ∧ DB w wr row vv X ∧ Hid (X = xs ++ parts n j) ∧ (j < L → OwnR w wr row vv X)) (fun _ iv _ _ => (intOf iv + 1).toNat)
        case atStart => exact ⟨L, xs, Nat.le_refl _, rfl, hd0.out, by rw [Hid, ← HL.out, parts_all]; simp, fun h => absurd h (Nat.lt_irrefl _)⟩
        case round =>
          obtain ⟨j, X, hj, rfl, hd1, HX, hown⟩ := hrel
          have hXl : X.length ≤ 900010 := by
            rw [HX.out, List.length_append]
            have := parts_len n j
            rw [HL.out] at this
            omega
          cases j with
          | zero =>
            go_wp2
            go_ret
            exact ⟨_, rfl, by rw [← parts_zero, ← HX.out]; exact hd1, by rw [← parts_zero, ← HX.out]; exact hown (by have := List.length_pos_iff.2 (dig_ne n); rw [HL.out] at this; omega)⟩
          | succ i =>
            have hi1 : (((i + 1 : Nat) : Int) - 1) = (i : Int) := by omega
            by_cases hi0 : i = 0
            · subst hi0
              have hand := and_127 n (by omega) (by omega)
              obtain ⟨d, hd2⟩ : ∃ d : Nat, (n : Int) % 128 = (d : Int) := ⟨n % 128, by omega⟩
              have hd128 : d < 128 := by omega
              have hdv := Lib.hid (show d = (dig n).getD 0 0 by rw [dig_get n 0 (by rw [HL.out]; omega)]; simp; omega)
              go_wp2_with (at_builtin; refine DB.append rfl _ _ rfl u0 _ rfl hd1 _ _ rfl ?c1 ?_)
              case c1 => omega
              intro v' w2 hl2 _ _ hown2
              go_wp2
              go_roundw
              case rel => exact ⟨0, _, by omega, by go_num, hl2, by rw [Hid, HX.out, parts_last, hdv.out, List.append_assoc], fun _ => hown2⟩
              case measure => simp [intOf]
            · have hi0' : 0 < i := by omega
              obtain ⟨y2, hy2⟩ : ∃ y : Int, 7 * (i : Int) = y := ⟨_, rfl⟩
              have hy20 : 0 ≤ y2 := by omega
              have hy21 : y2 ≤ 63 := by omega
              obtain ⟨qn, hqn⟩ : ∃ qn : Nat, Hid (n / 128 ^ i = qn) := ⟨_, rfl⟩
              have hq2 : (n : Int) / 2 ^ y2.toNat = (qn : Int) := by
                rw [← hqn.out, ← hy2, show (7 * (i : Int)).toNat = 7 * i by omega, pow_128]; exact (Int.natCast_ediv _ _).symm
              have hqle : qn ≤ n := by rw [← hqn.out]; exact Nat.div_le_self _ _
              have hand := and_127 qn (by omega) (by omega)
              obtain ⟨d, hd2⟩ : ∃ d : Nat, (qn : Int) % 128 = (d : Int) := ⟨qn % 128, by omega⟩
              have hd128 : d < 128 := by omega
              have hdv := Lib.hid (show d = (dig n).getD i 0 by rw [dig_get n i (by rw [HL.out]; omega), hqn.out]; omega)
              have hor := or_128 d hd128
              go_wp2_with (at_builtin; refine DB.append rfl _ _ rfl u0 _ rfl hd1 _ _ rfl ?c1 ?_)
              case c1 => omega
              intro v' w2 hl2 _ _ hown2
              go_wp2
              go_roundw
              case rel => exact ⟨i, _, by omega, by go_num, hl2, by rw [Hid, HX.out, parts_step n i hi0' (by rw [HL.out]; omega), hdv.out, List.append_assoc], fun _ => hown2⟩
              case measure => simp [intOf]
end Go.Proofs.Ytegajejaadkkiab
