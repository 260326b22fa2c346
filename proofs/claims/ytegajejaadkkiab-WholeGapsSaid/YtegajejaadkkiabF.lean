import Derived.Test.YtegajejaadkkiabE
import Derived.Laws.OwnMore
namespace Go.Proofs.Ytegajejaadkkiab
open Go.RowKit

theorem info28 : (Try.prog.info? 28).map (fun i => (i.zero, i.size, i.bytes)) = some (some (.agg #[.int .i64 0, .int .i64 0]), 2, 16) := by kernel_rfl

def duo (p : Int × Int) : List Value := [.int .i64 p.1, .int .i64 p.2]
/-- a row of pairs of the call's own. -/
def D2 (base : Nat) (w : World) (v : Value) (l : List (Int × Int)) : Prop := w.ownsRow base 28 2 v l.length (l.flatMap duo)

theorem duo_len (r : List (Int × Int)) : (r.flatMap duo).length = r.length * 2 := by
  induction r with
  | nil => rfl
  | cons x r ih => rw [List.flatMap_cons, List.length_append, ih]; simp [duo]; omega

theorem D2.nil (base : Nat) (w : World) : D2 base w (.slice none 0 0) [] := World.ownsRow_nil _ _ _ _

theorem D2.append {ops : Array Oper} {rest : List Oper} {o : Oper} {a : Act} {Q : Exit → Act → World → Prop} {base : Nat} {w : World} (hgd : o.guard = none) (s x : Operand)
    (ho : o.op = .call { callee := .builtin .append, args := #[s, x], argTypes := #[29, 29] })
    (v : Value) (l : List (Int × Int)) (hs : a.eval s = v) (hd : D2 base w v l) (p q : Int) (T : TypeId)
    (hx : a.eval x = .slice (some ⟨w.heap.size, 0, none⟩) 1 1) (hlen : l.length ≤ 1000000) (hb : base ≤ w.heap.size)
    (h : ∀ v' w', D2 base w' v' (l ++ [(p, q)]) → w.grownBy w' v.ownBlock → wpList Try.prog ops Q rest (a.put o.dst v') w') : wpList Try.prog ops Q (o :: rest) a (w.alloc (.cells #[.int .i64 p, .int .i64 q] T)) := by
  obtain ⟨i5, hi, hz0, hz1, hz2⟩ := info_parts info28
  refine wpList_append_own _ hgd s x 29 ho base 28 i5 _ 2 16 Try.underlying29 hi hz0 hz1 hz2 rfl (by decide) v _ _ hs (World.ownsRow.alloc hd _) ⟨w.heap.size, 0, none⟩ 1 1 [.int .i64 p, .int .i64 q] hx rfl (new_cells _ _ _) (by simp [Value.oneCell']) (by unfold maxLen; omega) (by omega) (by simp; omega) ?_
  intro v' w' hd' hg _
  refine h v' w' ?_ ((World.grownBy_alloc _ _ _).trans hg)
  unfold D2; simpa [duo] using hd'

theorem D2.open {base : Nat} {w : World} {v : Value} {r : List (Int × Int)} {p q : Int} (h : D2 base w v (r ++ [(p, q)])) :
    ∃ g cap, v = .slice (some ⟨g, 0, none⟩) (r.length + 1) cap ∧ r.length + 1 ≤ cap ∧ base ≤ g ∧ g < w.heap.size ∧ w.cell? ⟨g, r.length * 2 + 1, none⟩ = some (.int .i64 q) ∧ w.frozen? ⟨g, r.length * 2 + 1, none⟩ = false ∧
      ∀ u, D2 base (w.setCell ⟨g, r.length * 2 + 1, none⟩ (.int .i64 u)) v (r ++ [(p, u)]) := by
  unfold D2 at h
  rw [List.length_append, List.length_singleton] at h
  rcases h.2 with ⟨rfl, h0⟩ | ⟨g, cap, cur, rfl, hb, hg, hn, _⟩
  · omega
  · have hfl := duo_len r
    refine ⟨g, cap, rfl, hn, hb, (Array.getElem?_eq_some_iff.1 hg).1, ?_, h.frozenAt _, fun u => ?_⟩
    · rw [h.cellAt _ (by omega), List.flatMap_append, List.getElem?_append_right (by omega), hfl]
      simp [duo]
    · have := h.stored (r.length * 2 + 1) (.int .i64 u)
      unfold D2
      rw [List.length_append, List.length_singleton]
      have e : ((r ++ [(p, q)]).flatMap duo).set (r.length * 2 + 1) (.int .i64 u) = (r ++ [(p, u)]).flatMap duo := by
        rw [List.flatMap_append, List.flatMap_append, List.set_append_right _ _ (by omega), hfl]
        simp [duo]
      rw [← e]
      exact this.1

theorem D2.duos {base : Nat} {w : World} {v : Value} {l : List (Int × Int)} (h : D2 base w v l) : Duos w v l := by
  rcases h.2 with ⟨rfl, h0⟩ | ⟨g, cap, cur, rfl, hb, hg, hn, _⟩
  · exact .inl ⟨List.eq_nil_of_length_eq_zero h0, _, _, rfl⟩
  · refine .inr ⟨g, 0, cap, rfl, hn, (Array.getElem?_eq_some_iff.1 hg).1, fun i hi => ?_⟩
    have h0 := h.cellAt (i * 2) (by omega)
    have h1 := h.cellAt (i * 2 + 1) (by omega)
    rw [flat_get duo 2 (fun _ => rfl) (0, 0) l i 1 hi (by omega)] at h1
    have h0' := flat_get duo 2 (fun _ => rfl) (0, 0) l i 0 hi (by omega)
    rw [Nat.add_zero] at h0'
    rw [h0'] at h0
    rw [Nat.zero_add]
    exact ⟨h0, h1⟩

theorem D2.shape {base : Nat} {w : World} {v : Value} {l : List (Int × Int)} (h : D2 base w v l) : ∃ A c, v = .slice A l.length c := by
  rcases h.2 with ⟨rfl, h0⟩ | ⟨g, cap, cur, rfl, _⟩
  · rw [h0]; exact ⟨_, _, rfl⟩
  · exact ⟨_, _, rfl⟩

/-- the runs of the first k numbers. -/
def runs (l : List Nat) : Nat → List (Int × Int)
  | 0 => []
  | k + 1 => if 0 < k ∧ l.getD k 0 = l.getD (k - 1) 0 + 1 then (runs l k).dropLast ++ [(((runs l k).getLastD (0, 0)).1, ((runs l k).getLastD (0, 0)).2 + 1)] else runs l k ++ [(((l.getD k 0 : Nat) : Int), 1)]

theorem runs_ne (l : List Nat) (k : Nat) : ∃ r p q, runs l (k + 1) = r ++ [(p, q)] := by
  unfold runs
  split
  · exact ⟨_, _, _, rfl⟩
  · exact ⟨_, _, _, rfl⟩
theorem runs_len (l : List Nat) : ∀ k, (runs l k).length ≤ k ∧ ∀ p ∈ runs l k, 0 ≤ p.2 ∧ p.2 ≤ k := by
  intro k
  induction k with
  | zero => simp [runs]
  | succ k ih =>
    unfold runs
    split
    · rename_i h
      obtain ⟨j, rfl⟩ : ∃ j, k = j + 1 := ⟨k - 1, by omega⟩
      obtain ⟨r, p, q, e⟩ := runs_ne l j
      rw [e] at ih ⊢
      have hq := ih.2 (p, q) (by simp)
      refine ⟨by simp at ih ⊢; omega, fun x hx => ?_⟩
      simp at hx
      rcases hx with hx | hx
      · have := ih.2 x (by simp [hx]); omega
      · subst hx
        simp
        simp at hq
        omega
    · refine ⟨by simp; omega, fun x hx => ?_⟩
      simp at hx
      rcases hx with hx | hx
      · have := ih.2 x hx; omega
      · subst hx; simp; omega
theorem runs_bump {l : List Nat} {k : Nat} {r : List (Int × Int)} {p q : Int} (h : runs l k = r ++ [(p, q)]) (hc : 0 < k ∧ l.getD k 0 = l.getD (k - 1) 0 + 1) : runs l (k + 1) = r ++ [(p, q + 1)] := by
  rw [runs, if_pos hc, h]; simp
theorem runs_new {l : List Nat} {k : Nat} (hc : ¬ (0 < k ∧ l.getD k 0 = l.getD (k - 1) 0 + 1)) : runs l (k + 1) = runs l k ++ [(((l.getD k 0 : Nat) : Int), 1)] := by
  rw [runs, if_neg hc]

theorem D2.below {base : Nat} {w w1 : World} {v : Value} {l : List (Int × Int)} (h : D2 base w v l) (hb : Below w.heap.size w w1) : D2 base w1 v l :=
  World.ownsRow.kept h (row := none) (below_grown hb) (by
    cases e : v.ownBlock with
    | none => exact .inl rfl
    | some q => exact .inr (by simp))

/-- what Runs hands back. -/
def RetD3 (w : World) (l : List (Int × Int)) (en : Ending) (w' : World) : Prop := ∃ v', en = .returned v' ∧ D2 w.heap.size w' v' l ∧ Below w.heap.size w w'

set_option maxHeartbeats 1000000 in
set_option maxRecDepth 100000 in
theorem runs_calls (l : List Nat) (b off c : Nat) (w : World) (hl : Rises l) (hl1 : l.length ≤ 4000) (hbl : b < w.heap.size)
    (hc : ∀ i, i < l.length → w.cell? ⟨b, off + i, none⟩ = some (.int .i64 (l.getD i 0 : Nat))) :
    Calls Try.prog 11 #[.slice (some ⟨b, off, none⟩) l.length c] w (RetD3 w (runs l l.length)) := by
  have Hc := Lib.hid hc
  have Hl := Lib.hid hl
  clear hc hl
  go_enter Try.func11, Try.ntmps11
  go_wp2
  go_loopw [3, 4, 5, 6, 9] (fun ov _ _ _ i wr => ∃ k : Nat, k ≤ l.length ∧ i = .int .i64 k ∧ (∃ R, D2 w.heap.size wr ov R ∧ Hid (R = runs l k)) ∧ Below w.heap.size w wr) (fun _ _ _ _ i _ => l.length - (intOf i).toNat)
  case atStart => exact ⟨0, by omega, rfl, ⟨[], D2.nil _ _, rfl⟩, Below.refl _ _⟩
  case round =>
    obtain ⟨k, hk, rfl, ⟨R, hR, HR⟩, hB⟩ := hrel
    by_cases hlt : k < l.length
    · have hck := (hB.cell (p := ⟨b, _, none⟩) hbl).trans (Hc.out k hlt)
      have hRl : R.length ≤ k := by rw [HR.out]; exact (runs_len l k).1
      by_cases h0 : k = 0
      · subst h0
        have hn := Lib.hid (runs_new (l := l) (k := 0) (by omega))
        obtain rfl : R = [] := by rw [HR.out]; rfl
        rw [Nat.add_zero] at hck
        have hb1 := Hl.out.1 0 hlt
        rw [two62] at hb1
        have hb2 : ((l.getD 0 0 : Nat) : Int) < 4611686018427387904 := by omega
        have hb3 : 0 ≤ ((l.getD 0 0 : Nat) : Int) := by omega
        clear hb1
        generalize hx : ((l.getD 0 0 : Nat) : Int) = x at *
        have Hx := Lib.hid hx
        clear hx
        obtain ⟨A, cc, rfl⟩ := hR.shape
        go_wp2_with (at_builtin; refine D2.append rfl _ _ rfl _ _ rfl hR _ _ _ rfl (by omega) hB.size ?_)
        intro v' w2 hR2 hg2
        have hB2 := hB.grown hg2 hB.size (fun q hq => (World.ownsRow.lt hR q hq).1)
        go_wp2
        go_roundw
        case rel => exact ⟨1, by omega, by go_num, ⟨_, hR2, by rw [Hid, hn.out, ← Hx.out]; rfl⟩, hB2⟩
        case measure => simp [intOf]; omega
      · obtain ⟨j, rfl⟩ : ∃ j, k = j + 1 := ⟨k - 1, by omega⟩
        have hcj := (hB.cell (p := ⟨b, _, none⟩) hbl).trans (Hc.out j (by omega))
        have hr := Hl.out.2 j hlt
        have hb1 := Hl.out.1 (j + 1) hlt
        rw [two62] at hb1
        have hb2 : ((l.getD (j + 1) 0 : Nat) : Int) < 4611686018427387904 := by omega
        have hb3 : 0 ≤ ((l.getD j 0 : Nat) : Int) := by omega
        have hr2 : ((l.getD j 0 : Nat) : Int) < ((l.getD (j + 1) 0 : Nat) : Int) := by omega
        have hj : ((j + 1 : Nat) : Int) - 1 = (j : Int) := by omega
        by_cases hs : l.getD (j + 1) 0 = l.getD j 0 + 1
        · obtain ⟨r, p, q, hrj⟩ := runs_ne l j
          have hn := Lib.hid (runs_bump hrj ⟨by omega, by simpa using hs⟩)
          have hs2 : ((l.getD (j + 1) 0 : Nat) : Int) - 1 = ((l.getD j 0 : Nat) : Int) := by omega
          have hq : 0 ≤ q ∧ q ≤ (j + 1 : Nat) := by
            have := (runs_len l (j + 1)).2 (p, q) (by rw [hrj]; simp)
            exact this
          rw [HR.out, hrj] at hR
          have hrl : r.length + 1 ≤ j + 1 := by
            have := (runs_len l (j + 1)).1
            rw [hrj] at this; simpa using this
          obtain ⟨g, cap, rfl, hcap, hg1, hg2, hcq, hfq, hset⟩ := hR.open
          have Hset := Lib.hid hset
          clear hset hb1 hr hs hrj hRl HR
          obtain ⟨hq0, hq1⟩ := hq
          generalize ((l.getD (j + 1) 0 : Nat) : Int) = x at *
          generalize ((l.getD j 0 : Nat) : Int) = y at *
          have hfst : (r.length : Int) + 1 - 1 = (r.length : Int) := by omega
          go_wp2
          go_region
          go_wp2
          go_roundw
          case rel => exact ⟨j + 1 + 1, by omega, by go_num, ⟨_, Hset.out (q + 1), hn.out.symm⟩, (hB.setCell hg1 _).drew⟩
          case measure => simp [intOf]; omega
        · have hn := Lib.hid (runs_new (l := l) (k := j + 1) (fun h => hs (by simpa using h.2)))
          have hs2 : ((((l.getD (j + 1) 0 : Nat) : Int) - 1) == ((l.getD j 0 : Nat) : Int)) = false := by
            rw [beq_eq_false_iff_ne]; omega
          clear hb1 hr hs
          generalize hx : ((l.getD (j + 1) 0 : Nat) : Int) = x at *
          have Hx := Lib.hid hx
          clear hx
          generalize ((l.getD j 0 : Nat) : Int) = y at *
          obtain ⟨A, cc, rfl⟩ := hR.shape
          go_wp2_with (at_builtin; refine D2.append rfl _ _ rfl _ _ rfl hR _ _ _ rfl (by omega) hB.size ?_)
          intro v' w2 hR2 hg2
          have hB2 := hB.grown hg2 hB.size (fun q hq => (World.ownsRow.lt hR q hq).1)
          go_wp2
          go_roundw
          case rel => exact ⟨j + 1 + 1, by omega, by go_num, ⟨_, hR2, by rw [Hid, hn.out, HR.out]⟩, hB2⟩
          case measure => simp [intOf]; omega
    · obtain rfl : k = l.length := by omega
      go_wp2
      go_ret
      exact ⟨_, rfl, by rw [← HR.out]; exact hR, hB⟩
end Go.Proofs.Ytegajejaadkkiab
