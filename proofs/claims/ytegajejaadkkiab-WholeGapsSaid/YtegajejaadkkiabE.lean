import Derived.Test.YtegajejaadkkiabD
namespace Go.Proofs.Ytegajejaadkkiab
open Go.RowKit

set_option maxHeartbeats 1000000 in
theorem clonei_calls (a : Addr) (c : Nat) (l : List Int) (w : World) (hl : l.length ≤ 1000000) (hc : ∀ i, i < l.length → w.cell? (a.add i) = some (.int .i64 (l.getD i 0))) : Calls Try.prog 17 #[.slice (some a) l.length c] w (RetO .i64 3 w l) := by
  have qT : ∀ (w : World) (a : Option Addr) (n c n' c' : Nat), (binOp .eql 25 (.slice a n c) (.slice none n' c')).run Try.prog w = .ok (.bool a.isNone) w := fun w a n c n' c' => Lib.run_eql_slice_nil w _ _ a n c n' c' Try.underlying25
  obtain ⟨i3, hi, hz0, hz1, hz2⟩ := info_parts info3
  go_enter Try.func17, Try.ntmps17
  go_wp2_with (at_builtin; refine wpList_append_own _ rfl _ _ 25 rfl w.heap.size 3 i3 _ 1 8 Try.underlying25 hi hz0 hz1 hz2 rfl (by decide) _ 0 [] rfl (World.ownsRow_made _ #[] 0 (Nat.le_refl _) (by unfold maxLen; omega) rfl) a l.length c (l.map (Value.int .i64)) rfl ?c1 ?c2 ?c3 ?c4 ?c5 ?c6 ?_)
  case c1 => simp
  case c2 => 
    intro j u hj
    have hjl : j < l.length := by
      have := (List.getElem?_eq_some_iff.1 hj).1
      simpa using this
    rw [getD_nums .i64 l j hjl] at hj
    cases hj
    rw [((Below.refl w.heap.size w).alloc (Nat.le_refl _) _).cell ?_]
    · exact hc j hjl
    · exact World.block_lt_of_cell? w _ (hc j hjl)
  case c3 => simp [Value.oneCell']
  case c4 => unfold maxLen; omega
  case c5 => omega
  case c6 => simp
  intro v' w2 hown hg _
  go_wp2
  go_ret
  refine ⟨v', rfl, by simpa using hown, ?_⟩
  exact ((Below.refl w.heap.size w).alloc (Nat.le_refl _) _).grown hg (by simp) (fun q hq => by simp [Value.ownBlock] at hq; omega)

set_option maxHeartbeats 400000 in
theorem clip_calls (A : Option Addr) (n c : Nat) (w : World) (hc : n ≤ c) (hA : A = none → c = 0) (hm : c ≤ maxLen) (hs : ∀ a, A = some a → a.spot = none) :
    Calls Try.prog 4 #[.slice A n c] w fun e w' => e = .returned (.slice A n n) ∧ w = w' := by
  unfold maxLen at hm
  cases A with
  | none => 
    obtain rfl := hA rfl
    obtain rfl : n = 0 := by omega
    go_enter Try.func4, Try.ntmps4
    go_wp2
    go_ret
    exact ⟨rfl, rfl⟩
  | some a =>
    obtain ⟨b, off, spot⟩ := a
    obtain rfl : spot = none := hs _ rfl
    go_enter Try.func4, Try.ntmps4
    go_wp2
    go_ret
    exact ⟨rfl, rfl⟩

set_option maxHeartbeats 400000 in
theorem gput_nil (row : Option Nat) (v : Value) (xs : List Int) (A : Option Addr) (c : Nat) (w : World) (hd : DB w w row v xs) (hx : xs.length ≤ 100000) :
    Calls Try.prog 7 #[v, .slice A 0 c] w (RetD2 w row (xs ++ enc 0) true) := by
  go_enter Try.func7, Try.ntmps7
  go_wp2
  refine wp_loop_rounds 1 ?_
  rw [rounds_succ]
  go_wp2_with fail
  refine (wput_calls row v xs 0 w hd (by rw [two62]; omega) (by omega)).mono ?_
  rintro e w1 ⟨v1, rfl, hd1⟩
  go_wp2
  refine wp_loop_rounds 1 ?_
  rw [rounds_succ]
  go_wp2
  go_ret2
  exact ⟨_, rfl, hd1⟩

set_option maxHeartbeats 1000000 in
set_option maxRecDepth 100000 in
/-- a row whose last number is there twice. -/
theorem gput_bad (v : Value) (l : List Nat) (z : Nat) (b off c : Nat) (w : World) (hl : Rises l) (hl0 : 0 < l.length) (hl1 : l.length ≤ 4000) (hz : z = l.getD (l.length - 1) 0)
    (hc : ∀ i, i < l.length → w.cell? ⟨b, off + i, none⟩ = some (.int .i64 (l.getD i 0 : Nat))) (hcz : w.cell? ⟨b, off + l.length, none⟩ = some (.int .i64 (z : Nat))) (_hcap : l.length + 1 ≤ c) :
    Calls Try.prog 7 #[v, .slice (some ⟨b, off, none⟩) (l.length + 1) c] w fun e w' => e = .returned (.tuple #[v, .bool false]) ∧ w = w' := by
  have Hc := Lib.hid hc
  have Hz := Lib.hid hz
  have Hcz := Lib.hid hcz
  clear hc hz hcz
  go_enter Try.func7, Try.ntmps7
  go_wp2
  go_loop [4, 5, 6, 7, 16] (fun _ _ _ _ i => ∃ k : Nat, k ≤ l.length ∧ i = .int .i64 k) (fun _ _ _ _ i => l.length - (intOf i).toNat)
  case atStart => exact ⟨0, by omega, rfl⟩
  case round =>
    obtain ⟨k, hk, rfl⟩ := hrel
    by_cases hlt : k < l.length
    · have hck := Hc.out k hlt
      have hb1 := hl.1 k hlt
      rw [two62] at hb1
      by_cases h0 : k = 0
      · subst h0
        rw [Nat.add_zero] at hck
        have hb2 : ((l.getD 0 0 : Nat) : Int) < 4611686018427387904 := by omega
        have hb3 : 0 ≤ ((l.getD 0 0 : Nat) : Int) := by omega
        generalize ((l.getD 0 0 : Nat) : Int) = x at *
        clear hb1
        go_wp2
        go_round
        case rel => exact ⟨1, by omega, by go_num⟩
        case measure => simp [intOf]; omega
      · obtain ⟨j, rfl⟩ : ∃ j, k = j + 1 := ⟨k - 1, by omega⟩
        have hcj := Hc.out j (by omega)
        have hr := hl.2 j hlt
        have hb2 : ((l.getD (j + 1) 0 : Nat) : Int) < 4611686018427387904 := by omega
        have hb3 : 0 ≤ ((l.getD (j + 1) 0 : Nat) : Int) := by omega
        have hr2 : ((l.getD j 0 : Nat) : Int) < ((l.getD (j + 1) 0 : Nat) : Int) := by omega
        clear hb1 hr
        generalize ((l.getD (j + 1) 0 : Nat) : Int) = x at *
        generalize ((l.getD j 0 : Nat) : Int) = y at *
        have hj : ((j + 1 : Nat) : Int) - 1 = (j : Int) := by omega
        go_wp2
        go_round
        case rel => exact ⟨j + 1 + 1, by omega, by go_num⟩
        case measure => simp [intOf]; omega
    · obtain rfl : k = l.length := by omega
      obtain ⟨j, hj0⟩ : ∃ j, l.length = j + 1 := ⟨l.length - 1, by omega⟩
      have hck := Hcz.out
      have hcj := Hc.out j (by omega)
      have hb1 := hl.1 j (by omega)
      rw [two62] at hb1
      have hzj : z = l.getD j 0 := by rw [Hz.out, hj0]; rfl
      rw [hzj] at hck
      have hb2 : ((l.getD j 0 : Nat) : Int) < 4611686018427387904 := by omega
      have hb3 : 0 ≤ ((l.getD j 0 : Nat) : Int) := by omega
      clear hb1 hzj hlt
      generalize ((l.getD j 0 : Nat) : Int) = y at *
      have hsub : (l.length : Int) - 1 = (j : Int) := by omega
      have Hj := Lib.hid hj0
      clear hj0
      go_wp2
      go_ret2
      exact ⟨rfl, rfl⟩
end Go.Proofs.Ytegajejaadkkiab
