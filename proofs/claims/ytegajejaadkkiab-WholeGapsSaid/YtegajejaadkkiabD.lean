import Derived.Test.YtegajejaadkkiabC
import Derived.Lib.SliceRun
import Derived.Laws.StructEq
import Derived.ChangeKeysEq
namespace Go.Proofs.Ytegajejaadkkiab
open Go.RowKit

theorem cells3 : Try.prog.cellsOf 3 = 1 := by kernel_rfl
theorem info3 : (Try.prog.info? 3).map (fun i => (i.zero, i.size, i.bytes)) = some (some (.int .i64 0), 1, 8) := by kernel_rfl
theorem eq_int (d : Nat) (w : World) (x y : Int) : (Op.equalIn (d + 1) 3 (.int .i64 x) (.int .i64 y)).run Try.prog w = .ok (x == y) w := by
  simp [Op.equalIn, run_underlying Try.underlying3]
theorem part0 (w : World) (x y : Value) : (part 3 #[x, y] 0).run Try.prog w = .ok x w := by kernel_rfl
theorem part1 (w : World) (x y : Value) : (part 3 #[x, y] 1).run Try.prog w = .ok y w := by kernel_rfl
theorem pair_neq (w : World) (x y x' y' : Int) : (binOp .neq 28 (.agg #[.int .i64 x, .int .i64 y]) (.agg #[.int .i64 x', .int .i64 y'])).run Try.prog w = .ok (.bool (!(x == x' && y == y'))) w := by
  obtain ⟨i, hi, _⟩ := info_parts info3
  rw [run_neq_struct]
  obtain ⟨d, hd⟩ : ∃ d, d + 1 + 1 = 10000 := ⟨9998, rfl⟩
  rw [← hd, run_equalIn_array w (d + 1) _ _ Try.underlying28 hi, cells3]
  rw [show List.range 2 = [0, 1] from rfl]
  simp only [Op.eqItems, Sem.run_bind, Nat.zero_mul, Nat.one_mul, part0, Result.andThen_ok, eq_int]
  cases h1 : x == x' <;> cases h2 : y == y' <;> simp [part1, eq_int, h2]

/-! equal rows are equal. -/
set_option maxHeartbeats 1000000 in
theorem eqb_calls (l : List Int) (v1 v2 : Value) (w : World) (h1 : Ints w .u8 v1 l) (h2 : Ints w .u8 v2 l) (hl : l.length ≤ 1000000) :
    Calls Try.prog 8 #[v1, v2] w fun e w' => e = .returned (.bool true) ∧ Below w.heap.size w w' := by
  rcases h1 with ⟨rfl, A1, c1, rfl⟩ | ⟨b1, o1, c1, rfl, hc1, hb1, h1⟩
  · rcases h2 with ⟨_, A2, c2, rfl⟩ | ⟨b2, o2, c2, rfl, hc2, hb2, h2⟩
    · go_enter Try.func8, Try.ntmps8
      go_wp2
      refine wp_loop_rounds 1 ?_
      rw [rounds_succ]
      go_wp2
      go_ret
      exact ⟨rfl, Below.refl _ _⟩
    · go_enter Try.func8, Try.ntmps8
      go_wp2
      refine wp_loop_rounds 1 ?_
      rw [rounds_succ]
      go_wp2
      go_ret
      exact ⟨rfl, Below.refl _ _⟩
  · rcases h2 with ⟨rfl, A2, c2, rfl⟩ | ⟨b2, o2, c2, rfl, hc2, hb2, h2⟩
    · go_enter Try.func8, Try.ntmps8
      go_wp2
      refine wp_loop_rounds 1 ?_
      rw [rounds_succ]
      go_wp2
      go_ret
      exact ⟨rfl, Below.refl _ _⟩
    · have H1 := Lib.hid h1
      have H2 := Lib.hid h2
      clear h1 h2
      go_enter Try.func8, Try.ntmps8
      go_wp2
      go_loopw [4, 5, 13] (fun _ _ i wr => ∃ k : Nat, k ≤ l.length ∧ i = .int .i64 k ∧ Below w.heap.size w wr) (fun _ _ i _ => l.length - (intOf i).toNat)
      case atStart => exact ⟨0, by omega, rfl, Below.refl _ _⟩
      case round =>
        obtain ⟨k, hk, rfl, hB⟩ := hrel
        by_cases hlt : k < l.length
        · have g1 := (hB.cell (p := ⟨b1, _, none⟩) hb1).trans (H1.out k hlt)
          have g2 := (hB.cell (p := ⟨b2, _, none⟩) hb2).trans (H2.out k hlt)
          generalize l.getD k 0 = x at *
          go_wp2
          go_quiet (fail)
          go_wp2
          go_roundw
          case rel => exact ⟨k + 1, by omega, by go_num, below_drewN hB _⟩
          case measure => simp [intOf]; omega
        · obtain rfl : k = l.length := by omega
          go_wp2
          go_ret
          exact ⟨rfl, hB⟩
set_option maxHeartbeats 1000000 in
theorem eqi_calls (l : List Int) (v1 v2 : Value) (w : World) (h1 : Ints w .i64 v1 l) (h2 : Ints w .i64 v2 l) (hl : l.length ≤ 1000000) :
    Calls Try.prog 13 #[v1, v2] w fun e w' => e = .returned (.bool true) ∧ Below w.heap.size w w' := by
  rcases h1 with ⟨rfl, A1, c1, rfl⟩ | ⟨b1, o1, c1, rfl, hc1, hb1, h1⟩
  · rcases h2 with ⟨_, A2, c2, rfl⟩ | ⟨b2, o2, c2, rfl, hc2, hb2, h2⟩
    · go_enter Try.func13, Try.ntmps13
      go_wp2
      refine wp_loop_rounds 1 ?_
      rw [rounds_succ]
      go_wp2
      go_ret
      exact ⟨rfl, Below.refl _ _⟩
    · go_enter Try.func13, Try.ntmps13
      go_wp2
      refine wp_loop_rounds 1 ?_
      rw [rounds_succ]
      go_wp2
      go_ret
      exact ⟨rfl, Below.refl _ _⟩
  · rcases h2 with ⟨rfl, A2, c2, rfl⟩ | ⟨b2, o2, c2, rfl, hc2, hb2, h2⟩
    · go_enter Try.func13, Try.ntmps13
      go_wp2
      refine wp_loop_rounds 1 ?_
      rw [rounds_succ]
      go_wp2
      go_ret
      exact ⟨rfl, Below.refl _ _⟩
    · have H1 := Lib.hid h1
      have H2 := Lib.hid h2
      clear h1 h2
      go_enter Try.func13, Try.ntmps13
      go_wp2
      go_loopw [4, 5, 13] (fun _ _ i wr => ∃ k : Nat, k ≤ l.length ∧ i = .int .i64 k ∧ Below w.heap.size w wr) (fun _ _ i _ => l.length - (intOf i).toNat)
      case atStart => exact ⟨0, by omega, rfl, Below.refl _ _⟩
      case round =>
        obtain ⟨k, hk, rfl, hB⟩ := hrel
        by_cases hlt : k < l.length
        · have g1 := (hB.cell (p := ⟨b1, _, none⟩) hb1).trans (H1.out k hlt)
          have g2 := (hB.cell (p := ⟨b2, _, none⟩) hb2).trans (H2.out k hlt)
          generalize l.getD k 0 = x at *
          go_wp2
          go_quiet (fail)
          go_wp2
          go_roundw
          case rel => exact ⟨k + 1, by omega, by go_num, below_drewN hB _⟩
          case measure => simp [intOf]; omega
        · obtain rfl : k = l.length := by omega
          go_wp2
          go_ret
          exact ⟨rfl, hB⟩

/-- a slice of pairs of ints that is read. -/
def Duos (w : World) (v : Value) (l : List (Int × Int)) : Prop :=
  (l = [] ∧ ∃ A c, v = .slice A 0 c) ∨ ∃ b off c, v = .slice (some ⟨b, off, none⟩) l.length c ∧ l.length ≤ c ∧ b < w.heap.size ∧ ∀ i, i < l.length → w.cell? ⟨b, off + i * 2, none⟩ = some (.int .i64 (l.getD i (0, 0)).1) ∧ w.cell? ⟨b, off + i * 2 + 1, none⟩ = some (.int .i64 (l.getD i (0, 0)).2)

theorem Duos.below {w w' : World} {v : Value} {l : List (Int × Int)} (h : Duos w v l) (hb : Below w.heap.size w w') : Duos w' v l := by
  rcases h with h | ⟨b, off, c, h1, h2, h3, h4⟩
  · exact .inl h
  · exact .inr ⟨b, off, c, h1, h2, Nat.lt_of_lt_of_le h3 hb.size, fun i hi => ⟨(hb.cell (p := ⟨b, _, none⟩) h3).trans (h4 i hi).1, (hb.cell (p := ⟨b, _, none⟩) h3).trans (h4 i hi).2⟩⟩

set_option maxHeartbeats 1000000 in
theorem eqp_calls (l : List (Int × Int)) (v1 v2 : Value) (w : World) (h1 : Duos w v1 l) (h2 : Duos w v2 l) (hl : l.length ≤ 1000000) :
    Calls Try.prog 10 #[v1, v2] w fun e w' => e = .returned (.bool true) ∧ Below w.heap.size w w' := by
  rcases h1 with ⟨rfl, A1, c1, rfl⟩ | ⟨b1, o1, c1, rfl, hc1, hb1, h1⟩
  · rcases h2 with ⟨_, A2, c2, rfl⟩ | ⟨b2, o2, c2, rfl, hc2, hb2, h2⟩
    · go_enter Try.func10, Try.ntmps10
      go_wp2
      refine wp_loop_rounds 1 ?_
      rw [rounds_succ]
      go_wp2
      go_ret
      exact ⟨rfl, Below.refl _ _⟩
    · go_enter Try.func10, Try.ntmps10
      go_wp2
      refine wp_loop_rounds 1 ?_
      rw [rounds_succ]
      go_wp2
      go_ret
      exact ⟨rfl, Below.refl _ _⟩
  · rcases h2 with ⟨rfl, A2, c2, rfl⟩ | ⟨b2, o2, c2, rfl, hc2, hb2, h2⟩
    · go_enter Try.func10, Try.ntmps10
      go_wp2
      refine wp_loop_rounds 1 ?_
      rw [rounds_succ]
      go_wp2
      go_ret
      exact ⟨rfl, Below.refl _ _⟩
    · have H1 := Lib.hid h1
      have H2 := Lib.hid h2
      clear h1 h2
      go_enter Try.func10, Try.ntmps10
      go_wp2
      go_loopw [4, 5, 13] (fun _ _ i wr => ∃ k : Nat, k ≤ l.length ∧ i = .int .i64 k ∧ Below w.heap.size w wr) (fun _ _ i _ => l.length - (intOf i).toNat)
      case atStart => exact ⟨0, by omega, rfl, Below.refl _ _⟩
      case round =>
        obtain ⟨k, hk, rfl, hB⟩ := hrel
        by_cases hlt : k < l.length
        · have g1 := (hB.cell (p := ⟨b1, _, none⟩) hb1).trans (H1.out k hlt).1
          have g2 := (hB.cell (p := ⟨b2, _, none⟩) hb2).trans (H2.out k hlt).1
          have g3 := (hB.cell (p := ⟨b1, _, none⟩) hb1).trans (H1.out k hlt).2
          have g4 := (hB.cell (p := ⟨b2, _, none⟩) hb2).trans (H2.out k hlt).2
          generalize (l.getD k (0, 0)).1 = x at *
          generalize (l.getD k (0, 0)).2 = y at *
          have hneq := fun w => pair_neq w x y x y
          go_wp2
          go_quiet (fail)
          go_wp2
          go_roundw
          case rel => exact ⟨k + 1, by omega, by go_num, below_drewN hB _⟩
          case measure => simp [intOf]; omega
        · obtain rfl : k = l.length := by omega
          go_wp2
          go_ret
          exact ⟨rfl, hB⟩

/-- what a clone is: a row of its own (or nil). -/
def RetO (k : IntKind) (e : TypeId) (w : World) (l : List Int) (en : Ending) (w' : World) : Prop := ∃ v', en = .returned v' ∧ w'.ownsRow w.heap.size e 1 v' l.length (l.map (Value.int k)) ∧ Below w.heap.size w w'

set_option maxHeartbeats 1000000 in
theorem cloneb_nil (w : World) : Calls Try.prog 5 #[.slice none 0 0] w (RetO .u8 5 w []) := by
  have qT : ∀ (w : World) (a : Option Addr) (n c n' c' : Nat), (binOp .eql 24 (.slice a n c) (.slice none n' c')).run Try.prog w = .ok (.bool a.isNone) w := fun w a n c n' c' => Lib.run_eql_slice_nil w _ _ a n c n' c' Try.underlying24
  go_enter Try.func5, Try.ntmps5
  go_wp2
  go_ret
  exact ⟨_, rfl, World.ownsRow_nil _ _ _ _, Below.refl _ _⟩

set_option maxHeartbeats 1000000 in
theorem cloneb_calls (a : Addr) (c : Nat) (l : List Int) (w : World) (hl : l.length ≤ 1000000) (hc : ∀ i, i < l.length → w.cell? (a.add i) = some (.int .u8 (l.getD i 0))) : Calls Try.prog 5 #[.slice (some a) l.length c] w (RetO .u8 5 w l) := by
  have qT : ∀ (w : World) (a : Option Addr) (n c n' c' : Nat), (binOp .eql 24 (.slice a n c) (.slice none n' c')).run Try.prog w = .ok (.bool a.isNone) w := fun w a n c n' c' => Lib.run_eql_slice_nil w _ _ a n c n' c' Try.underlying24
  obtain ⟨i5, hi, hz0, hz1, hz2⟩ := info_parts info5
  go_enter Try.func5, Try.ntmps5
  go_wp2_with (at_builtin; refine wpList_append_own _ rfl _ _ 24 rfl w.heap.size 5 i5 _ 1 1 Try.underlying24 hi hz0 hz1 hz2 rfl (by decide) _ 0 [] rfl (World.ownsRow_made _ #[] 0 (Nat.le_refl _) (by unfold maxLen; omega) rfl) a l.length c (l.map (Value.int .u8)) rfl ?c1 ?c2 ?c3 ?c4 ?c5 ?c6 ?_)
  case c1 => simp
  case c2 => 
    intro j u hj
    have hjl : j < l.length := by
      have := (List.getElem?_eq_some_iff.1 hj).1
      simpa using this
    rw [getD_nums .u8 l j hjl] at hj
    cases hj
    rw [((Below.refl w.heap.size w).alloc (Nat.le_refl _) _).cell ?_]
    · exact hc j hjl
    · exact World.block_lt_of_cell? w _ (hc j hjl)
  case c3 => simp [Value.oneCell']
  case c4 => unfold maxLen; omega
  case c5 => omega
  case c6 => simp
  intro v' w2 hown hg _
  go_wp2
  go_ret
  refine ⟨v', rfl, by simpa using hown, ?_⟩
  exact ((Below.refl w.heap.size w).alloc (Nat.le_refl _) _).grown hg (by simp) (fun q hq => by simp [Value.ownBlock] at hq; omega)
end Go.Proofs.Ytegajejaadkkiab
