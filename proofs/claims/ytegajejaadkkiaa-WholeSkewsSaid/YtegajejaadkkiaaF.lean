import Derived.Test.YtegajejaadkkiaaE
namespace Go.Proofs.Ytegajejaadkkiaa
open Go.RowKit

/-- a slice that reads as a row of pairs. -/
def SlP (w : World) (A : Option Addr) (l : List (Int × Int)) : Prop := l = [] ∨ ∃ b off, A = some ⟨b, off, none⟩ ∧ b < w.heap.size ∧ Pairs w b off l

theorem Pairs.below {B b off : Nat} {l : List (Int × Int)} {w w' : World} (h : Pairs w b off l) (hb : Below B w w') (hlt : b < B) : Pairs w' b off l :=
  fun i hi => ⟨(hb.cell (p := ⟨b, _, none⟩) hlt).trans (h i hi).1, (hb.cell (p := ⟨b, _, none⟩) hlt).trans (h i hi).2⟩

theorem SlP.below {A : Option Addr} {l : List (Int × Int)} {w0 w w' : World} (h : SlP w0 A l) (hs : Below w0.heap.size w0 w) (hb : Below w0.heap.size w w') : SlP w0 A l ∧ SlP w' A l := by
  refine ⟨h, ?_⟩
  rcases h with h | ⟨b, off, h1, h2, h3⟩
  · exact .inl h
  · exact .inr ⟨b, off, h1, by have := hs.size; have := hb.size; omega, (h3.below hs h2).below hb h2⟩

theorem SlP.mono {A : Option Addr} {l : List (Int × Int)} {w0 w : World} (h : SlP w0 A l) (hs : Below w0.heap.size w0 w) : SlP w A l := by
  rcases h with h | ⟨b, off, h1, h2, h3⟩
  · exact .inl h
  · exact .inr ⟨b, off, h1, by have := hs.size; omega, h3.below hs h2⟩

set_option maxHeartbeats 400000 in
theorem turned_nil (A : Option Addr) (c : Nat) (a b m : Int) (w : World) :
    Calls Try.prog 9 #[.slice A 0 c, .int .i64 a, .int .i64 b, .int .i64 m] w fun e w' => e = .returned (.int .i64 0) ∧ Below w.heap.size w w' := by
  go_enter Try.func9, Try.ntmps9
  go_wp2
  refine wp_loop_rounds 1 ?_
  rw [rounds_succ]
  go_wp2
  go_ret
  exact ⟨rfl, Below.refl _ _⟩

set_option maxHeartbeats 400000 in
theorem most_nil (bx : Nat) (A : Option Addr) (c : Nat) (a b r : Int) (w : World) 
    (hcx : w.cell? ⟨bx, 0, none⟩ = some (.slice A 0 c)) :
    Calls Try.prog 6 #[.int .i64 a, .int .i64 b, .int .i64 r, .int .i64 5, .pointer (some ⟨bx, 0, none⟩)] w fun e w' => e = .returned (.int .i64 0) ∧ Below w.heap.size w w' := by
  go_enter Try.func6, Try.ntmps6
  go_wp2
  refine wp_loop_rounds 1 ?_
  rw [rounds_succ]
  go_wp2
  go_ret
  exact ⟨rfl, Below.refl _ _⟩

theorem turned_any (A : Option Addr) (c : Nat) (l : List (Int × Int)) (a b m : Int) (w : World) (hP : SlP w A l) (hBy : Bytes l) (hl : l.length ≤ 30) (hc : l.length ≤ c) (hm1 : 1 ≤ m) (hm5 : m ≤ 5) (ha : 0 ≤ a) (hb : 0 ≤ b) :
    Calls Try.prog 9 #[.slice A l.length c, .int .i64 a, .int .i64 b, .int .i64 m] w fun e w' => e = .returned (.int .i64 (outT (gstep (tnode m) 2 a b) l 0)) ∧ Below w.heap.size w w' := by
  rcases hP with rfl | ⟨b, off, rfl, h2, h3⟩
  · exact turned_nil A c a b m w
  · exact turned_calls _ _ c l a _ m w h3 hBy hl hc hm1 hm5 ha hb h2

theorem most_any (bx : Nat) (A : Option Addr) (c : Nat) (l : List (Int × Int)) (a b r : Int) (w : World) (hP : SlP w A l) (hBy : Bytes l) (hl : l.length ≤ 30) (hc : l.length ≤ c) (hr1 : 1 ≤ r) (hr5 : r ≤ 4) (ha : 0 ≤ a) (hb : 0 ≤ b) (hbx : bx < w.heap.size)
    (hcx : w.cell? ⟨bx, 0, none⟩ = some (.slice A l.length c)) :
    Calls Try.prog 6 #[.int .i64 a, .int .i64 b, .int .i64 r, .int .i64 5, .pointer (some ⟨bx, 0, none⟩)] w fun e w' => e = .returned (.int .i64 (outT (gstep mnode r a b) l 0)) ∧ Below w.heap.size w w' := by
  rcases hP with rfl | ⟨b, off, rfl, h2, h3⟩
  · exact most_nil bx A c a b r w hcx
  · exact most_calls bx _ _ c l a _ r w h3 hBy hl hc hr1 hr5 ha hb h2 hbx hcx

theorem flat_get {α β : Type} (f : α → List β) (n : Nat) (hf : ∀ x, (f x).length = n) (d : α) : ∀ (l : List α) (i j : Nat), i < l.length → j < n → (l.flatMap f)[i * n + j]? = (f (l.getD i d))[j]? := by
  intro l
  induction l with
  | nil => intro i j hi; simp at hi
  | cons x r ih =>
    intro i j hi hj
    rw [List.flatMap_cons]
    cases i with
    | zero => 
      rw [Nat.zero_mul, Nat.zero_add, List.getElem?_append_left (by rw [hf]; exact hj)]
      rfl
    | succ i =>
      rw [List.getElem?_append_right (by rw [hf, Nat.add_mul]; omega), hf, show (i + 1) * n + j - n = i * n + j by rw [Nat.add_mul]; omega]
      rw [ih i j (by simpa using hi) hj]
      rfl

theorem steady_own (v : Value) (n base : Nat) (xs : List Value) (l : List (Int × Int × Int)) (m : Nat) (w : World) (hown : w.ownsRow base 34 9 v n xs) (hn : n = l.length)
    (hx : xs = l.flatMap fun p => [.int .i64 p.1, .int .i64 p.2.1, .int .i64 p.2.2, .int .i64 0, .int .i64 0, .string ⟨#[]⟩, .string ⟨#[]⟩, .string ⟨#[]⟩, .int .i64 (-1)]) (hF : Fine l) (hl : l.length ≤ 60) (hm1 : 1 ≤ m) (hm5 : m ≤ 5) :
    Calls Try.prog 10 #[.int .i64 m, v] w fun e w' => e = .returned (.bool (inB (runS m l (S0 2)) 4 m)) ∧ Below w.heap.size w w' := by
  subst hn
  rcases hown.2 with ⟨rfl, h0⟩ | ⟨g, cap, cur, rfl, hb, hg, hn, hcap, hsz, htake⟩
  · have : l = [] := List.eq_nil_of_length_eq_zero h0
    subst this
    exact steady_nil none 0 m w hm1 hm5
  · refine steady_calls g 0 cap l m w ?_ hF hl hm1 hm5 (Array.getElem?_eq_some_iff.1 hg).1
    intro i hi
    have key : ∀ j, j < 9 → w.cell? ⟨g, 0 + i * 9 + j, none⟩ = [Value.int .i64 (l.getD i (0, 0, 0)).1, .int .i64 (l.getD i (0, 0, 0)).2.1, .int .i64 (l.getD i (0, 0, 0)).2.2, .int .i64 0, .int .i64 0, .string ⟨#[]⟩, .string ⟨#[]⟩, .string ⟨#[]⟩, .int .i64 (-1)][j]? := by
      intro j hj
      have e1 : w.cell? ⟨g, 0 + i * 9 + j, none⟩ = cur[0 + i * 9 + j]? := by simp [World.cell?, hg]
      rw [e1, Nat.zero_add, ← Array.getElem?_toList]
      have e2 : cur.toList[i * 9 + j]? = (cur.toList.take (l.length * 9))[i * 9 + j]? := by
        rw [List.getElem?_take, if_pos (by omega)]
      rw [e2, htake, hx]
      exact flat_get _ 9 (fun _ => rfl) (0, 0, 0) l i j hi hj
    exact ⟨by simpa using key 0 (by omega), by simpa using key 1 (by omega), by simpa using key 2 (by omega), by simpa using key 3 (by omega), by simpa using key 4 (by omega), by simpa using key 5 (by omega), by simpa using key 6 (by omega), by simpa using key 7 (by omega), by simpa using key 8 (by omega)⟩
end Go.Proofs.Ytegajejaadkkiaa
