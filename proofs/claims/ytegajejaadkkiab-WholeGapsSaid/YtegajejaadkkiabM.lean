import Derived.Test.YtegajejaadkkiabK
namespace Go.Proofs.Ytegajejaadkkiab
open Go.RowKit

def Dj (a b : Value) : Prop := ∀ q, a.ownBlock = some q → b.ownBlock ≠ some q
def Lt (w : World) (v : Value) : Prop := ∀ q, v.ownBlock = some q → q < w.heap.size

theorem Dj.symm {a b : Value} (h : Dj a b) : Dj b a := fun q h1 h2 => h q h2 h1
theorem Dj.fr {w : World} {a a' b : Value} (h : Dj a b) (hf : Fr w a a') (hb : Lt w b) : Dj a' b := fun q h1 h2 => by
  rcases hf q h1 with h3 | h3
  · exact h q h3 h2
  · have := hb q h2; omega
theorem Lt.mono {w w' : World} {v : Value} (h : Lt w v) (hs : w.heap.size ≤ w'.heap.size) : Lt w' v := fun q hq => Nat.lt_of_lt_of_le (h q hq) hs
theorem Dj.ne {a b : Value} (h : Dj a b) : a.ownBlock = none ∨ a.ownBlock ≠ b.ownBlock := by
  cases e : a.ownBlock with
  | none => exact .inl rfl
  | some q => exact .inr (fun h2 => h q e h2.symm)
theorem Dj.of_new {w : World} {a b : Value} (ha : Lt w a) (hb : ∀ q, b.ownBlock = some q → w.heap.size ≤ q) : Dj a b := fun q h1 h2 => by
  have := ha q h1; have := hb q h2; omega

theorem own_base {w : World} {base base' e size n : Nat} {v : Value} {xs : List Value} (h : w.ownsRow base e size v n xs) (hb : ∀ q, v.ownBlock = some q → base' ≤ q) : w.ownsRow base' e size v n xs := by
  refine ⟨h.1, ?_⟩
  rcases h.2 with h2 | ⟨g, cap, cur, rfl, _, r⟩
  · exact .inl h2
  · exact .inr ⟨g, cap, cur, rfl, hb g rfl, r⟩

theorem fr_of_at {w : World} {v v' : Value} (h : v'.ownBlock = v.ownBlock ∨ v'.ownBlock = some w.heap.size) : Fr w v v' := fun q hq => by
  rcases h with h | h
  · exact .inl (h ▸ hq)
  · rw [h] at hq; cases hq; exact .inr (Nat.le_refl _)

theorem OI.append2 {ops : Array Oper} {rest : List Oper} {o : Oper} {a : Act} {Q : Exit → Act → World → Prop} {base : Nat} {w : World} (hgd : o.guard = none) (s x : Operand)
    (ho : o.op = .call { callee := .builtin .append, args := #[s, x], argTypes := #[25, 25] })
    (v : Value) (xs : List Int) (hs : a.eval s = v) (hd : OI base w v xs) (c : Int) (T : TypeId)
    (hx : a.eval x = .slice (some ⟨w.heap.size, 0, none⟩) 1 1) (hlen : xs.length ≤ 1000000) (hb : base ≤ w.heap.size)
    (h : ∀ v' w', OI base w' v' (xs ++ [c]) → w.grownBy w' v.ownBlock → Fr w v v' → wpList Try.prog ops Q rest (a.put o.dst v') w') : wpList Try.prog ops Q (o :: rest) a (w.alloc (.cells #[.int .i64 c] T)) := by
  obtain ⟨i5, hi, hz0, hz1, hz2⟩ := info_parts info3
  refine wpList_append_own_at _ hgd s x 25 ho base 3 i5 _ 1 8 Try.underlying25 hi hz0 hz1 hz2 rfl (by decide) v _ _ hs (World.ownsRow.alloc hd _) ⟨w.heap.size, 0, none⟩ 1 1 [.int .i64 c] hx rfl (new_cells _ _ _) (by simp [Value.oneCell']) (by unfold maxLen; omega) (by omega) (by simp; omega) ?_
  intro v' w' hd' hg _ hat
  refine h v' w' ?_ ((World.grownBy_alloc _ _ _).trans hg) ?_
  · unfold OI; simpa using hd'
  · intro q hq
    rcases fr_of_at hat q hq with h3 | h3
    · exact .inl h3
    · exact .inr (by simp at h3; omega)

theorem D2.append2 {ops : Array Oper} {rest : List Oper} {o : Oper} {a : Act} {Q : Exit → Act → World → Prop} {base : Nat} {w : World} (hgd : o.guard = none) (s x : Operand)
    (ho : o.op = .call { callee := .builtin .append, args := #[s, x], argTypes := #[29, 29] })
    (v : Value) (l : List (Int × Int)) (hs : a.eval s = v) (hd : D2 base w v l) (p q : Int) (T : TypeId)
    (hx : a.eval x = .slice (some ⟨w.heap.size, 0, none⟩) 1 1) (hlen : l.length ≤ 1000000) (hb : base ≤ w.heap.size)
    (h : ∀ v' w', D2 base w' v' (l ++ [(p, q)]) → w.grownBy w' v.ownBlock → Fr w v v' → wpList Try.prog ops Q rest (a.put o.dst v') w') : wpList Try.prog ops Q (o :: rest) a (w.alloc (.cells #[.int .i64 p, .int .i64 q] T)) := by
  obtain ⟨i5, hi, hz0, hz1, hz2⟩ := info_parts info28
  refine wpList_append_own_at _ hgd s x 29 ho base 28 i5 _ 2 16 Try.underlying29 hi hz0 hz1 hz2 rfl (by decide) v _ _ hs (World.ownsRow.alloc hd _) ⟨w.heap.size, 0, none⟩ 1 1 [.int .i64 p, .int .i64 q] hx rfl (new_cells _ _ _) (by simp [Value.oneCell']) (by unfold maxLen; omega) (by omega) (by simp; omega) ?_
  intro v' w' hd' hg _ hat
  refine h v' w' ?_ ((World.grownBy_alloc _ _ _).trans hg) ?_
  · unfold D2; simpa [duo] using hd'
  · intro q hq
    rcases fr_of_at hat q hq with h3 | h3
    · exact .inl h3
    · exact .inr (by simp at h3; omega)

theorem OB.db {base : Nat} {w : World} {v : Value} {X : List Int} (h : OB base w v X) : DB w w v.ownBlock v X := ⟨Dst.own h, fun q hq => (World.ownsRow.lt h q hq).2⟩
theorem OB.shape {base : Nat} {w : World} {v : Value} {l : List Int} (h : OB base w v l) : ∃ A c, v = .slice A l.length c ∧ (A = none → c = 0) ∧ l.length ≤ c ∧ c ≤ maxLen ∧ ∀ a, A = some a → a.spot = none := by
  rcases h.2 with ⟨rfl, h0⟩ | ⟨g, cap, cur, rfl, _, _, h1, h2, _⟩
  · rw [h0]; exact ⟨_, _, rfl, (fun _ => rfl), Nat.le_refl _, (by unfold maxLen; omega), (fun a h => by cases h)⟩
  · exact ⟨_, _, rfl, (fun h => by cases h), h1, h2, (fun a h => by cases h; rfl)⟩

/-- what is clipped is full. -/
theorem OB.clip {base : Nat} {w : World} {A : Option Addr} {c : Nat} {l : List Int} (h : OB base w (.slice A l.length c) l) : DB w w none (.slice A l.length l.length) l := by
  refine ⟨⟨grown_refl _ _, .inr ⟨A, rfl, ?_, by simp, ?_⟩⟩, ?_⟩
  · rintro rfl
    rcases h.2 with ⟨e, h0⟩ | ⟨g, cap, cur, e, _⟩
    · exact h0
    · simp at e
  · rintro b rfl j u hj
    refine World.ownsRow.cells h (g := b.block) rfl j u hj |> fun hc => ?_
    rcases h.2 with ⟨e, h0⟩ | ⟨g, cap, cur, e, _⟩
    · simp at e
    · simp only [Value.slice.injEq, Option.some.injEq] at e
      obtain ⟨rfl, _⟩ := e
      exact hc
  · intro q hq
    have e : (Value.slice A l.length c).ownBlock = (Value.slice A l.length l.length).ownBlock := by cases A <;> rfl
    exact (World.ownsRow.lt h q (e.trans hq)).2

theorem DB.ints {w0 w : World} {row : Option Nat} {v : Value} {X : List Int} (h : DB w0 w row v X) : Ints w .u8 v X := h.1.ints

theorem DB.kept {w w1 : World} {row row2 : Option Nat} {v : Value} {X : List Int} (h : DB w w row v X) (hg : w.grownBy w1 row2) (hne : v.ownBlock = none ∨ v.ownBlock ≠ row2) : DB w1 w1 row v X := by
  refine ⟨⟨grown_refl _ _, ?_⟩, fun q hq => Nat.lt_of_lt_of_le (h.2 q hq) hg.size⟩
  rcases h.1.how with ⟨ho, hr⟩ | ⟨A, h1, h2, h3, h4⟩
  · refine .inl ⟨World.ownsRow.kept ho hg hne, ?_⟩
    rcases hr with hr | hr | ⟨q, hq, hq2⟩
    · exact .inl hr
    · exact .inr (.inl hr)
    · have := h.2 q hq; omega
  · refine .inr ⟨A, h1, h2, h3, fun b hb j u hj => ?_⟩
    have := h4 b hb j u hj
    rw [World.cell?_of_block (w := w)]
    · exact this
    · have hlt := World.block_lt_of_cell? w _ this
      have e : (b.add j).block = b.block := by unfold Addr.add; split <;> rfl
      rw [e] at hlt ⊢
      refine hg.block b.block hlt (fun e2 => ?_)
      have hb2 : v.ownBlock = some b.block := by rw [h1, hb]; rfl
      rcases hne with h | h
      · rw [h] at hb2; cases hb2
      · exact h (hb2.trans e2)

theorem DB.shape {w0 w : World} {row : Option Nat} {v : Value} {l : List Int} (h : DB w0 w row v l) : ∃ A c, v = .slice A l.length c := by
  rcases h.1.how with ⟨ho, _⟩ | ⟨A, rfl, _⟩
  · rcases ho.2 with ⟨rfl, h0⟩ | ⟨g, cap, cur, rfl, _⟩
    · rw [h0]; exact ⟨_, _, rfl⟩
    · exact ⟨_, _, rfl⟩
  · exact ⟨_, _, rfl⟩

set_option maxHeartbeats 400000 in
theorem size_ok (l : List Nat) (b off c : Nat) (w : World) (hl : Rises l) (hl1 : l.length ≤ 4000) (hbl : b < w.heap.size)
    (hc : ∀ i, i < l.length → w.cell? ⟨b, off + i, none⟩ = some (.int .i64 (l.getD i 0 : Nat))) :
    Calls Try.prog 9 #[.slice (some ⟨b, off, none⟩) l.length c] w fun e w' => e = .returned (.int .i64 (rowEnc l).length) ∧ Below w.heap.size w w' := by
  have Hc := Lib.hid hc
  clear hc
  go_enter Try.func9, Try.ntmps9
  go_wp2_with fail
  refine (gput_calls none (.slice none 0 0) [] l b off c w ⟨Dst.nil _ _ _ _, fun q h => by cases h⟩ (by simp) hl (by omega) hbl (by simp) Hc.out).mono ?_
  rintro e w1 ⟨v1, rfl, hd1⟩
  have hg := hd1.1.gr
  obtain ⟨A, cc, rfl⟩ := hd1.shape
  go_wp2
  go_ret
  exact ⟨by simp, grown_below (Below.refl _ _) hg (Nat.le_refl _)⟩

set_option maxHeartbeats 400000 in
theorem size_bad (l : List Nat) (z : Nat) (b off c : Nat) (w : World) (hl : Rises l) (hl0 : 0 < l.length) (hl1 : l.length ≤ 4000) (hz : z = l.getD (l.length - 1) 0)
    (hc : ∀ i, i < l.length → w.cell? ⟨b, off + i, none⟩ = some (.int .i64 (l.getD i 0 : Nat))) (hcz : w.cell? ⟨b, off + l.length, none⟩ = some (.int .i64 (z : Nat))) (hcap : l.length + 1 ≤ c) :
    Calls Try.prog 9 #[.slice (some ⟨b, off, none⟩) (l.length + 1) c] w fun e w' => e = .returned (.int .i64 0) ∧ w = w' := by
  have Hc := Lib.hid hc
  have Hz := Lib.hid hz
  clear hc hz
  go_enter Try.func9, Try.ntmps9
  go_wp2_with fail
  refine (gput_bad (.slice none 0 0) l z b off c w hl hl0 hl1 Hz.out Hc.out hcz hcap).mono ?_
  rintro e w1 ⟨rfl, rfl⟩
  go_wp2
  go_ret
  exact ⟨rfl, rfl⟩
end Go.Proofs.Ytegajejaadkkiab
