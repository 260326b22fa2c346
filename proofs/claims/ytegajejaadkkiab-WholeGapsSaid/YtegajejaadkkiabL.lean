import Derived.Test.YtegajejaadkkiabRows
import Derived.WalkKit
import Derived.WalkSpells
import Derived.WalkLawsBesides
import Derived.BigRegion
import Derived.BigQuiet
import Derived.Deep.QuietTactic
import Derived.Lib.Hide
import Derived.ArgAppend
import Derived.Maps.AppendAt
namespace Go.Proofs.Ytegajejaadkkiab
open Go.RowKit

/-! small words, the same in every seat. -/

def mx (a b : Int) : Int := if a < b then b else a
theorem mx_def (a b : Int) : mx a b = max a b := by unfold mx; split <;> omega
theorem max2_mx (k k' : IntKind) (x y : Int) : Builtin.max2 (.int k x) (.int k' y) = pure (.int k (mx x y)) := by
  simp only [Builtin.max2, gt_iff_lt]; unfold mx; split <;> rfl
theorem max_two (ats : Array TypeId) (ty : TypeId) (a b : Value) : Builtin.max_ ats ty #[a, b] = (Builtin.max2 a b >>= fun s => pure s) := by
  simp only [Builtin.max_, List.foldlM_cons, List.foldlM_nil]
def mn (a b : Int) : Int := if b < a then b else a
theorem mn_def (a b : Int) : mn a b = min a b := by unfold mn; split <;> omega
theorem min2_mn (k k' : IntKind) (x y : Int) : Builtin.min2 (.int k x) (.int k' y) = pure (.int k (mn x y)) := by
  simp only [Builtin.min2]; unfold mn; split <;> rfl
theorem min_two (ats : Array TypeId) (ty : TypeId) (a b : Value) : Builtin.min_ ats ty #[a, b] = (Builtin.min2 a b >>= fun s => pure s) := by
  simp only [Builtin.min_, List.foldlM_cons, List.foldlM_nil]
theorem mx_le {a b c : Int} (h : a ≤ c) (h' : b ≤ c) : mx a b ≤ c := by rw [mx_def]; omega
theorem le_mx {a b : Int} : a ≤ mx a b := by rw [mx_def]; omega

theorem ret_int {k : IntKind} {a b : Int} (h : a = b) : Ending.returned (.int k a) = .returned (.int k b) := by rw [h]
theorem ret_bool {a b : Bool} (h : a = b) : Ending.returned (.bool a) = .returned (.bool b) := by rw [h]

theorem heap_new (w : World) (o : Obj) : (w.alloc o).heap[w.heap.size]? = some o := by
  show (w.heap.push o)[w.heap.size]? = _
  simp

theorem cell_ne (w : World) (g b i j : Nat) (u : Value) (h : b ≠ g) : (w.setCell ⟨g, i, none⟩ u).cell? ⟨b, j, none⟩ = w.cell? ⟨b, j, none⟩ :=
  World.cell?_of_block (w := w) (Below.heap_setCell _ _ _ _ h)

theorem new_cells (w : World) (cs : Array Value) (e : TypeId) (j : Nat) (u : Value) (h : cs.toList[j]? = some u) : (w.alloc (.cells cs e)).cell? ((⟨w.heap.size, 0, none⟩ : Addr).add j) = some u := by
  have e : (⟨w.heap.size, 0, none⟩ : Addr).add j = ⟨w.heap.size, j, none⟩ := by
    unfold Addr.add; split
    · rename_i hj; rw [hj]
    · simp
  rw [e]
  simp only [World.cell?, heap_new]
  simpa using h

theorem add_none (b off j : Nat) : (⟨b, off, none⟩ : Addr).add j = ⟨b, off + j, none⟩ := by
  unfold Addr.add; split
  · rename_i hj; rw [hj]; rfl
  · rfl

theorem below_grown {w w' : World} {row : Option Nat} (h : Below w.heap.size w w') : w.grownBy w' row := ⟨h.os, h.tape, h.output, h.size, fun k hk _ => h.block k hk⟩
theorem grown_below {B : Nat} {a w w' : World} (h : Below B a w) (hg : w.grownBy w' none) (hB : B ≤ w.heap.size) : Below B a w' := h.grown hg hB (fun _ h => by cases h)
theorem grown_refl (w : World) (row : Option Nat) : w.grownBy w row := ⟨rfl, rfl, rfl, Nat.le_refl _, fun _ _ _ => rfl⟩

theorem flat_get {α β : Type} (f : α → List β) (n : Nat) (hf : ∀ x, (f x).length = n) (d : α) : ∀ (l : List α) (i j : Nat), i < l.length → j < n → (l.flatMap f)[i * n + j]? = (f (l.getD i d))[j]? := by
  intro l
  induction l with
  | nil => intro i j hi; simp at hi
  | cons x r ih =>
    intro i j hi hj
    rw [List.flatMap_cons]
    cases i with
    | zero => 
      rw [Nat.zero_mul, Nat.zero_add, List.getElem?_append_left (by rw [hf]; exact hj)]
      rfl
    | succ i =>
      rw [List.getElem?_append_right (by rw [hf, Nat.add_mul]; omega), hf, show (i + 1) * n + j - n = i * n + j by rw [Nat.add_mul]; omega]
      rw [ih i j (by simpa using hi) hj]
      rfl

/-! a slice that is appended to: it owns its row, or it is full. 'row': the one block of w0 that may have been written. -/

structure Dst (w0 w : World) (row : Option Nat) (e size : Nat) (v : Value) (n : Nat) (xs : List Value) : Prop where
  gr : w0.grownBy w row
  how : (w.ownsRow 0 e size v n xs ∧ (v.ownBlock = row ∨ v.ownBlock = none ∨ ∃ q, v.ownBlock = some q ∧ w0.heap.size ≤ q)) ∨
    ∃ A, v = .slice A n n ∧ (A = none → n = 0) ∧ xs.length = n * size ∧ ∀ b, A = some b → ∀ j u, xs[j]? = some u → w.cell? (b.add j) = some u

theorem Dst.nil (w : World) (row : Option Nat) (e size : Nat) : Dst w w row e size (.slice none 0 0) 0 [] :=
  ⟨grown_refl w row, .inl ⟨World.ownsRow_nil _ _ _ _, .inr (.inl rfl)⟩⟩

theorem Dst.own {w : World} {base e size n : Nat} {v : Value} {xs : List Value} (h : w.ownsRow base e size v n xs) : Dst w w v.ownBlock e size v n xs := by
  refine ⟨grown_refl w _, .inl ⟨?_, .inl rfl⟩⟩
  obtain ⟨h1, h2⟩ := h
  refine ⟨h1, ?_⟩
  rcases h2 with h2 | ⟨g, cap, cur, hv, _, r⟩
  · exact .inl h2
  · exact .inr ⟨g, cap, cur, hv, Nat.zero_le _, r⟩

theorem Dst.len {w0 w : World} {row : Option Nat} {e size n : Nat} {v : Value} {xs : List Value} (h : Dst w0 w row e size v n xs) : xs.length = n * size := by
  rcases h.how with ⟨h, _⟩ | ⟨_, _, _, h, _⟩
  · exact h.1
  · exact h

theorem Dst.below {w0 w w1 : World} {row : Option Nat} {e size n : Nat} {v : Value} {xs : List Value} (h : Dst w0 w row e size v n xs) (hb : Below w.heap.size w w1) : Dst w0 w1 row e size v n xs := by
  refine ⟨h.gr.trans (below_grown hb), ?_⟩
  rcases h.how with ⟨ho, hr⟩ | ⟨A, h1, h2, h3, h4⟩
  · refine .inl ⟨ho.kept (row := none) (below_grown hb) ?_, hr⟩
    cases e : v.ownBlock with
    | none => exact .inl rfl
    | some q => exact .inr (by simp)
  · refine .inr ⟨A, h1, h2, h3, fun b hb' j u hj => ?_⟩
    have := h4 b hb' j u hj
    rw [hb.cell (World.block_lt_of_cell? w _ this)]; exact this

theorem Dst.alloc {w0 w : World} {row : Option Nat} {e size n : Nat} {v : Value} {xs : List Value} (h : Dst w0 w row e size v n xs) (o : Obj) : Dst w0 (w.alloc o) row e size v n xs :=
  h.below ((Below.refl _ _).alloc (Nat.le_refl _) o)

theorem Dst.drewN {w0 w : World} {row : Option Nat} {e size n : Nat} {v : Value} {xs : List Value} (h : Dst w0 w row e size v n xs) (k : Nat) : Dst w0 (w.drewN k) row e size v n xs :=
  h.below (below_drewN (Below.refl _ _) k)

theorem Dst.append {P : Program} {ops : Array Oper} {rest : List Oper} {o : Oper} {a : Act} {Q : Exit → Act → World → Prop} {w0 w : World} {row : Option Nat} (hgd : o.guard = none) (s x : Operand) (t : TypeId)
    (ho : o.op = .call { callee := .builtin .append, args := #[s, x], argTypes := #[t, t] })
    (e : TypeId) (i : TypeInfo) (z : Value) (size bytes : Nat) (ht : P.underlying t = some (.slice e)) (hi : P.info? e = some i) (hz : i.zero = some z)
    (hsize : i.size = size) (hby : i.bytes = bytes) (hzs : z.cells.size = size) (hsz : 0 < size)
    (v : Value) (n : Nat) (xs : List Value) (hs : a.eval s = v) (hd : Dst w0 w row e size v n xs)
    (ad : Addr) (m c : Nat) (news : List Value) (hx : a.eval x = .slice (some ad) m c) (hl : news.length = m * size) (hnews : ∀ j u, news[j]? = some u → w.cell? (ad.add j) = some u) (h1 : ∀ u ∈ news, u.oneCell' = true)
    (hm : 0 < m) (h63 : n + m ≤ maxLen) (hbytes : (n + m) * bytes ≤ 140737488355328)
    (h : ∀ v' w', Dst w0 w' row e size v' (n + m) (xs ++ news) → w.grownBy w' v.ownBlock → (w'.ownsRow 0 e size v' (n + m) (xs ++ news) ∧ (v'.ownBlock = row ∨ v'.ownBlock = none ∨ ∃ q, v'.ownBlock = some q ∧ w0.heap.size ≤ q)) → (v'.ownBlock = v.ownBlock ∨ v'.ownBlock = none ∨ ∃ q, v'.ownBlock = some q ∧ w.heap.size ≤ q) → wpList P ops Q rest (a.put o.dst v') w') : wpList P ops Q (o :: rest) a w := by
  rcases hd.how with ⟨hown, hr⟩ | ⟨A, rfl, hA, hlen, hcells⟩
  · refine wpList_append_own_at w hgd s x t ho 0 e i z size bytes ht hi hz hsize hby hzs hsz v n xs hs hown ad m c news hx hl hnews h1 h63 hbytes (Nat.zero_le _) ?_
    intro v' w' hown' hgr' _ hat
    have hk : v'.ownBlock = row ∨ v'.ownBlock = none ∨ ∃ q, v'.ownBlock = some q ∧ w0.heap.size ≤ q := by
      rcases hat with hat | hat
      · rw [hat]; exact hr
      · exact .inr (.inr ⟨_, hat, hd.gr.size⟩)
    refine h v' w' ⟨?_, .inl ⟨hown', hk⟩⟩ hgr' ⟨hown', hk⟩ (hat.elim .inl fun h => .inr (.inr ⟨_, h, Nat.le_refl _⟩))
    · refine ⟨hgr'.os.trans hd.gr.os, hgr'.tape.trans hd.gr.tape, hgr'.output.trans hd.gr.output, Nat.le_trans hd.gr.size hgr'.size, fun k hk hne => ?_⟩
      rw [hgr'.block k (Nat.lt_of_lt_of_le hk hd.gr.size) ?_]
      · exact hd.gr.block k hk hne
      · rcases hr with hr | hr | ⟨q, hq, hq2⟩
        · rw [hr]; exact hne
        · rw [hr]; simp
        · rw [hq]; simp; omega
  · refine wpList_append_grows w hgd s x t ho e i z size bytes ht hi hz hsize hby hzs hsz A n n xs hs (fun h => ⟨hA h, hA h⟩) hlen hcells ad m c news hx hl hnews h1 (by omega) h63 hbytes ?_
    intro v' w' hown' hgr'
    have hown0 : w'.ownsRow 0 e size v' (n + m) (xs ++ news) := by
      obtain ⟨h1, h2⟩ := hown'
      refine ⟨h1, ?_⟩
      rcases h2 with h2 | ⟨g, cap, cur, hv, _, r⟩
      · exact .inl h2
      · exact .inr ⟨g, cap, cur, hv, Nat.zero_le _, r⟩
    have hk : v'.ownBlock = row ∨ v'.ownBlock = none ∨ ∃ q, v'.ownBlock = some q ∧ w0.heap.size ≤ q := by
      cases e : v'.ownBlock with
      | none => exact .inr (.inl rfl)
      | some q => exact .inr (.inr ⟨q, rfl, Nat.le_trans hd.gr.size (hown'.lt q e).1⟩)
    refine h v' w' ⟨?_, .inl ⟨hown0, hk⟩⟩ ⟨hgr'.os, hgr'.tape, hgr'.output, hgr'.size, fun k hk _ => hgr'.block k hk (by simp)⟩ ⟨hown0, hk⟩ (by
      cases e : v'.ownBlock with
      | none => exact .inr (.inl rfl)
      | some q => exact .inr (.inr ⟨q, rfl, (hown'.lt q e).1⟩))
    · exact ⟨hgr'.os.trans hd.gr.os, hgr'.tape.trans hd.gr.tape, hgr'.output.trans hd.gr.output, Nat.le_trans hd.gr.size hgr'.size, fun k hk hne => (hgr'.block k (Nat.lt_of_lt_of_le hk hd.gr.size) (by simp)).trans (hd.gr.block k hk hne)⟩

/-- from here on: what comes of it later comes of the first world, too. -/
theorem Dst.self {w0 w : World} {row : Option Nat} {e size n : Nat} {v : Value} {xs : List Value} (h : Dst w0 w row e size v n xs) :
    ∃ row', Dst w w row' e size v n xs ∧ (row' = v.ownBlock ∨ row' = none) ∧ ∀ (w2 : World) (v2 : Value) (m : Nat) (ys : List Value), Dst w w2 row' e size v2 m ys → Dst w0 w2 row e size v2 m ys := by
  rcases h.how with ⟨ho, hr⟩ | ⟨A, h1, h2, h3, h4⟩
  · refine ⟨v.ownBlock, ⟨grown_refl _ _, .inl ⟨ho, .inl rfl⟩⟩, .inl rfl, fun w2 v2 m ys h2 => ⟨?_, ?_⟩⟩
    · refine ⟨h2.gr.os.trans h.gr.os, h2.gr.tape.trans h.gr.tape, h2.gr.output.trans h.gr.output, Nat.le_trans h.gr.size h2.gr.size, fun k hk hne => ?_⟩
      rw [h2.gr.block k (Nat.lt_of_lt_of_le hk h.gr.size) ?_]
      · exact h.gr.block k hk hne
      · rcases hr with hr | hr | ⟨q, hq, hq2⟩
        · rw [hr]; exact hne
        · rw [hr]; simp
        · rw [hq]; simp; omega
    · rcases h2.how with ⟨ho2, hr2⟩ | hf
      · refine .inl ⟨ho2, ?_⟩
        rcases hr2 with h3 | h3 | ⟨q, h3, h4⟩
        · rw [h3]; exact hr
        · exact .inr (.inl h3)
        · exact .inr (.inr ⟨q, h3, Nat.le_trans h.gr.size h4⟩)
      · exact .inr hf
  · refine ⟨none, ⟨grown_refl _ _, .inr ⟨A, h1, h2, h3, h4⟩⟩, .inr rfl, fun w2 v2 m ys h2 => ⟨?_, ?_⟩⟩
    · exact ⟨h2.gr.os.trans h.gr.os, h2.gr.tape.trans h.gr.tape, h2.gr.output.trans h.gr.output, Nat.le_trans h.gr.size h2.gr.size, fun k hk hne => (h2.gr.block k (Nat.lt_of_lt_of_le hk h.gr.size) (by simp)).trans (h.gr.block k hk hne)⟩
    · rcases h2.how with ⟨ho2, hr2⟩ | hf
      · refine .inl ⟨ho2, ?_⟩
        rcases hr2 with h3 | h3 | ⟨q, h3, h4⟩
        · exact .inr (.inl h3)
        · exact .inr (.inl h3)
        · exact .inr (.inr ⟨q, h3, Nat.le_trans h.gr.size h4⟩)
      · exact .inr hf

/-- a slice of whole numbers that is read. -/
def Ints (w : World) (k : IntKind) (v : Value) (l : List Int) : Prop :=
  (l = [] ∧ ∃ A c, v = .slice A 0 c) ∨ ∃ b off c, v = .slice (some ⟨b, off, none⟩) l.length c ∧ l.length ≤ c ∧ b < w.heap.size ∧ ∀ i, i < l.length → w.cell? ⟨b, off + i, none⟩ = some (.int k (l.getD i 0))

theorem Ints.below {w w' : World} {k : IntKind} {v : Value} {l : List Int} (h : Ints w k v l) (hb : Below w.heap.size w w') : Ints w' k v l := by
  rcases h with h | ⟨b, off, c, h1, h2, h3, h4⟩
  · exact .inl h
  · exact .inr ⟨b, off, c, h1, h2, Nat.lt_of_lt_of_le h3 hb.size, fun i hi => (hb.cell (p := ⟨b, _, none⟩) h3).trans (h4 i hi)⟩

theorem getD_nums (k : IntKind) (l : List Int) (i : Nat) (hi : i < l.length) : (l.map (Value.int k))[i]? = some (.int k (l.getD i 0)) := by
  rw [List.getElem?_map, List.getD_eq_getElem?_getD, List.getElem?_eq_getElem hi]; rfl

/-- a row that it owns, or a full one, is read. -/
theorem Dst.ints {w0 w : World} {row : Option Nat} {e n : Nat} {v : Value} {k : IntKind} {l : List Int} (h : Dst w0 w row e 1 v n (l.map (Value.int k))) : Ints w k v l := by
  have hn : n = l.length := by have := h.len; simpa using this.symm
  subst hn
  by_cases hl : l = []
  · subst hl
    refine .inl ⟨rfl, ?_⟩
    rcases h.how with ⟨ho, _⟩ | ⟨A, rfl, _⟩
    · rcases ho.2 with ⟨rfl, _⟩ | ⟨g, cap, cur, rfl, _⟩
      · exact ⟨_, _, rfl⟩
      · exact ⟨_, _, rfl⟩
    · exact ⟨_, _, rfl⟩
  · have hpos : 0 < l.length := List.length_pos_iff.2 hl
    refine .inr ?_
    rcases h.how with ⟨ho, _⟩ | ⟨A, rfl, hA, _, hc⟩
    · have hcell := fun (g : Nat) => ho.cells (g := g)
      rcases ho.2 with ⟨rfl, h0⟩ | ⟨g, cap, cur, rfl, _, hg, hn, _⟩
      · omega
      · refine ⟨g, 0, cap, rfl, hn, (Array.getElem?_eq_some_iff.1 hg).1, fun i hi => ?_⟩
        have := hcell g rfl i _ (getD_nums k l i hi)
        rwa [add_none] at this
    · cases A with
      | none => have := hA rfl; omega
      | some b =>
        obtain ⟨b, off, spot⟩ := b
        have h0 := hc _ rfl 0 _ (getD_nums k l 0 hpos)
        have hs : spot = none := by simpa [Addr.add] using World.cell?_spot h0
        subst hs
        refine ⟨b, off, l.length, rfl, Nat.le_refl _, ?_, fun i hi => ?_⟩
        · have := World.block_lt_of_cell? w _ h0
          simpa [Addr.add] using this
        · have := hc _ rfl i _ (getD_nums k l i hi)
          rwa [add_none] at this
end Go.Proofs.Ytegajejaadkkiab
