import Derived.Test.YtegajejaadkkiaaD
namespace Go.Proofs.Ytegajejaadkkiaa
open Go.RowKit

def S0 (r : Int) : Nat → Int := fun i => if i = 0 then r else 0

theorem S0_bd {r : Int} (h : 0 ≤ r) (h' : r ≤ 4) : ∀ j, j < 56 → 0 ≤ S0 r j ∧ S0 r j ≤ 4 := by
  intro j _; unfold S0; split <;> omega

theorem zeros_get (r : Int) : ∀ i, i < 56 → (#[Value.int .i64 r, .int .i64 0, .int .i64 0, .int .i64 0, .int .i64 0, .int .i64 0, .int .i64 0, .int .i64 0, .int .i64 0, .int .i64 0, .int .i64 0, .int .i64 0, .int .i64 0, .int .i64 0, .int .i64 0, .int .i64 0, .int .i64 0, .int .i64 0, .int .i64 0, .int .i64 0, .int .i64 0, .int .i64 0, .int .i64 0, .int .i64 0, .int .i64 0, .int .i64 0, .int .i64 0, .int .i64 0, .int .i64 0, .int .i64 0, .int .i64 0, .int .i64 0, .int .i64 0, .int .i64 0, .int .i64 0, .int .i64 0, .int .i64 0, .int .i64 0, .int .i64 0, .int .i64 0, .int .i64 0, .int .i64 0, .int .i64 0, .int .i64 0, .int .i64 0, .int .i64 0, .int .i64 0, .int .i64 0, .int .i64 0, .int .i64 0, .int .i64 0, .int .i64 0, .int .i64 0, .int .i64 0, .int .i64 0, .int .i64 0] : Array Value)[i]? = some (.int .i64 (S0 r i)) := by
  intro i hi
  show ((Value.int .i64 r :: List.replicate 55 (Value.int .i64 0)).toArray : Array Value)[i]? = _
  cases i with
  | zero => rfl
  | succ i =>
    rw [List.getElem?_toArray, List.getElem?_cons_succ, List.getElem?_replicate, if_pos (by omega)]
    rfl

theorem heap_new (w : World) (o : Obj) : (w.alloc o).heap[w.heap.size]? = some o := by
  show (w.heap.push o)[w.heap.size]? = _
  simp

set_option maxHeartbeats 400000 in
theorem new_calls (n : Int) (w : World) (h1 : 1 ≤ n) (h2 : n ≤ 4) :
    Calls Try.prog 4 #[.int .i64 n] w fun e w' => e = .returned (.pointer (some ⟨w.heap.size, 0, none⟩)) ∧ Below w.heap.size w w' ∧ IsR w' w.heap.size (S0 n) := by
  go_enter Try.func4, Try.ntmps4
  go_wp2
  go_ret
  exact ⟨rfl, (Below.refl _ _).alloc (Nat.le_refl _) _, _, heap_new _ _, rfl, zeros_get n⟩

theorem Only.below {B g : Nat} {a w w' : World} (h : Below B a w) (hB : B ≤ w.heap.size) (hg : B ≤ g) (ho : Only g w w') : Below B a w' :=
  h.trans ⟨ho.os, ho.tape, ho.output, ho.size, fun k hk => ho.block k (by omega) (by omega)⟩

theorem IsR.below {B g : Nat} {w w' : World} {S : Nat → Int} (h : IsR w g S) (hb : Below B w w') (hg : g < B) : IsR w' g S := by
  obtain ⟨cs, h1, h2⟩ := h
  exact ⟨cs, (hb.block g hg).trans h1, h2⟩

theorem IsR.lt {g : Nat} {w : World} {S : Nat → Int} (h : IsR w g S) : g < w.heap.size := by
  obtain ⟨cs, h1, h2⟩ := h
  exact (Array.getElem?_eq_some_iff.1 h1).1

def nodeOf (m N : Int) : Nat := (if N.tmod m < 0 then N.tmod m + m else N.tmod m).toNat

def runS (m : Int) : List (Int × Int × Int) → (Nat → Int) → (Nat → Int)
  | [], S => S
  | s :: r, S => runS m r (if s.1 = 10 then goS S (nodeOf m s.2.1) s.2.2 5 else S)

theorem runS_drop {m : Int} {l : List (Int × Int × Int)} {k : Nat} (h : k < l.length) (S : Nat → Int) :
    runS m (l.drop k) S = runS m (l.drop (k + 1)) (if (l.getD k (0, 0, 0)).1 = 10 then goS S (nodeOf m (l.getD k (0, 0, 0)).2.1) (l.getD k (0, 0, 0)).2.2 5 else S) := by
  rw [List.drop_eq_getElem_cons h, List.getD_eq_getElem?_getD, List.getElem?_eq_getElem h]; rfl

/-- the cells of a row of steps. -/
def Steps9 (w : World) (b off : Nat) (l : List (Int × Int × Int)) : Prop :=
  ∀ i, i < l.length → w.cell? ⟨b, off + i * 9, none⟩ = some (.int .i64 (l.getD i (0, 0, 0)).1) ∧ w.cell? ⟨b, off + i * 9 + 1, none⟩ = some (.int .i64 (l.getD i (0, 0, 0)).2.1) ∧ w.cell? ⟨b, off + i * 9 + 2, none⟩ = some (.int .i64 (l.getD i (0, 0, 0)).2.2)
   ∧ w.cell? ⟨b, off + i * 9 + 3, none⟩ = some (.int .i64 0) ∧ w.cell? ⟨b, off + i * 9 + 4, none⟩ = some (.int .i64 0)
   ∧ w.cell? ⟨b, off + i * 9 + 5, none⟩ = some (.string ⟨#[]⟩) ∧ w.cell? ⟨b, off + i * 9 + 6, none⟩ = some (.string ⟨#[]⟩) ∧ w.cell? ⟨b, off + i * 9 + 7, none⟩ = some (.string ⟨#[]⟩)
   ∧ w.cell? ⟨b, off + i * 9 + 8, none⟩ = some (.int .i64 (-1))

def Fine (l : List (Int × Int × Int)) : Prop := ∀ i, i < l.length → -5 ≤ (l.getD i (0, 0, 0)).2.1 ∧ (l.getD i (0, 0, 0)).2.1 ≤ 0 ∧ 0 ≤ (l.getD i (0, 0, 0)).2.2 ∧ (l.getD i (0, 0, 0)).2.2 ≤ 64

attribute [local go_sem] max2_mx max_two in
set_option maxHeartbeats 2000000 in
set_option maxRecDepth 100000 in
theorem steady_calls (b off c : Nat) (l : List (Int × Int × Int)) (m : Nat) (w : World) (hP : Steps9 w b off l) (hF : Fine l) (hl : l.length ≤ 60) (hm1 : 1 ≤ m) (hm5 : m ≤ 5) (hbl : b < w.heap.size) :
    Calls Try.prog 10 #[.int .i64 m, .slice (some ⟨b, off, none⟩) l.length c] w fun e w' => e = .returned (.bool (inB (runS m l (S0 2)) 4 m)) ∧ Below w.heap.size w w' := by
  go_enter Try.func10, Try.ntmps10
  go_wp2_with fail
  refine (new_calls 2 w (by omega) (by omega)).mono ?_
  rintro e w1 ⟨rfl, hB1, hI1⟩
  go_wp2
  go_loopw [7, 8, 18] (fun _ _ i wr => ∃ k : Nat, k ≤ l.length ∧ i = .int .i64 k ∧ ∃ S : Nat → Int, IsR wr w.heap.size S ∧ Hid (runS m (l.drop k) S = runS m l (S0 2)) ∧ Hid (∀ j, j < 56 → 0 ≤ S j ∧ S j ≤ 4 + 384 * k) ∧ Hid (S 0 = 2) ∧ Below w.heap.size w wr) (fun _ _ i _ => l.length - (intOf i).toNat)
  case atStart => exact ⟨0, by omega, rfl, _, hI1, rfl, bd_mono (S0_bd (by omega) (by omega)) (by omega), rfl, hB1⟩
  case round =>
    obtain ⟨k, hk, rfl, S, hI, HR, HS, HS0, hB⟩ := hrel
    by_cases hlt : k < l.length
    · obtain ⟨h0, h1, h2, h3, h4, h5, h6, h7, h8⟩ := hP k hlt
      obtain ⟨f1, f2, f3, f4⟩ := hF k hlt
      have h0' := (hB.cell (p := ⟨b, _, none⟩) hbl).trans h0
      have h1' := (hB.cell (p := ⟨b, _, none⟩) hbl).trans h1
      have h2' := (hB.cell (p := ⟨b, _, none⟩) hbl).trans h2
      have h3' := (hB.cell (p := ⟨b, _, none⟩) hbl).trans h3
      have h4' := (hB.cell (p := ⟨b, _, none⟩) hbl).trans h4
      have h5' := (hB.cell (p := ⟨b, _, none⟩) hbl).trans h5
      have h6' := (hB.cell (p := ⟨b, _, none⟩) hbl).trans h6
      have h7' := (hB.cell (p := ⟨b, _, none⟩) hbl).trans h7
      have h8' := (hB.cell (p := ⟨b, _, none⟩) hbl).trans h8
      clear h0 h1 h2 h3 h4 h5 h6 h7 h8
      have HX := Lib.hid ((runS_drop (m := m) hlt S).symm.trans HR.out)
      clear HR
      generalize l.getD k (0, 0, 0) = p at *
      obtain ⟨x, y, z⟩ := p
      simp only at h0' h1' h2' f1 f2 f3 f4
      by_cases hx : x = 10
      · subst hx
        have hz : mx z 0 = z := by rw [mx_def]; omega
        have hm0 : -5 < y.tmod m ∧ y.tmod m ≤ 0 ∧ -(m : Int) < y.tmod m := by
          have e : y.tmod m = -((-y) % m) := by
            rw [show y = -(-y) by omega, Int.neg_tmod, Int.tmod_eq_emod_of_nonneg (by omega), Int.neg_neg]
          have h3 := Int.emod_nonneg (-y) (show (m : Int) ≠ 0 by omega)
          have h4 := Int.emod_lt_of_pos (-y) (show 0 < (m : Int) by omega)
          omega
        obtain ⟨n1, n2, n3⟩ := hm0
        have hgs : ∀ n : Nat, n < 5 → nodeOf m y = n → ∀ (wr w2 : World), IsR wr w.heap.size S → Below w.heap.size w wr → Only w.heap.size wr w2 → IsR w2 w.heap.size (goS S n z 5) → 
            ∃ S' : Nat → Int, IsR w2 w.heap.size S' ∧ Hid (runS m (l.drop (k + 1)) S' = runS m l (S0 2)) ∧ Hid (∀ j, j < 56 → 0 ≤ S' j ∧ S' j ≤ 4 + 384 * ((k + 1 : Nat) : Int)) ∧ Hid (S' 0 = 2) ∧ Below w.heap.size w w2 := by
          intro n hn5 hn wr w2 hI hB hO hI2
          refine ⟨_, hI2, ?_, ?_, ?_, Only.below hB hB.size (Nat.le_refl _) hO⟩
          · have := HX.out
            simp only [if_true] at this
            rw [← hn]; exact this
          · refine bd_mono (goS_bd hn5 f3 HS.out 5 (by omega)) ?_
            push_cast
            omega
          · rw [Hid, goS_zero]; exact HS0.out
        have hb100 : ∀ j, j < 56 → 0 ≤ S j ∧ S j ≤ 100000 := bd_mono HS.out (by omega)
        have hs02 : S 0 ≤ 1000 := by have := HS0.out; omega
        have Hgs := Lib.hid hgs
        have Hb := Lib.hid hb100
        have Hs := Lib.hid hs02
        clear hgs hb100 hs02 HX
        by_cases hneg : y.tmod m < 0
        · obtain ⟨n, hn⟩ : ∃ n : Nat, y.tmod m + m = n := ⟨(y.tmod m + m).toNat, by omega⟩
          have hnode := Lib.hid (show nodeOf m y = n from by unfold nodeOf; rw [if_pos hneg]; omega)
          have hn5 : n < 5 := by omega
          go_wp2_with fail
          refine (go_calls _ n z S _ (hI.below ((Below.refl _ _).alloc (Nat.le_refl _) _) hI.lt) hn5 f3 f4 Hb.out Hs.out).mono ?_
          rintro e w2 ⟨rfl, hO2, hI2⟩
          go_wp2
          go_roundw
          case rel => exact ⟨k + 1, by omega, by go_num, Hgs.out n hn5 hnode.out _ w2 (hI.below ((Below.refl _ _).alloc (Nat.le_refl _) _) hI.lt) (hB.alloc hB.size _) hO2 hI2⟩
          case measure => simp [intOf]; omega
        · have hy0 : y.tmod m = 0 := by omega
          have hnode := Lib.hid (show nodeOf m y = 0 from by unfold nodeOf; rw [if_neg hneg, hy0]; rfl)
          go_wp2_with fail
          refine (go_calls _ 0 z S _ (hI.below ((Below.refl _ _).alloc (Nat.le_refl _) _) hI.lt) (by omega) f3 f4 Hb.out Hs.out).mono ?_
          rintro e w2 ⟨rfl, hO2, hI2⟩
          go_wp2
          go_roundw
          case rel => exact ⟨k + 1, by omega, by go_num, Hgs.out 0 (by omega) hnode.out _ w2 (hI.below ((Below.refl _ _).alloc (Nat.le_refl _) _) hI.lt) (hB.alloc hB.size _) hO2 hI2⟩
          case measure => simp [intOf]; omega
      · have hxb : (x != 10) = true := by rw [bne_iff_ne]; exact hx
        have HX2 := HX.out
        simp only [if_neg hx] at HX2
        have HX3 := Lib.hid HX2
        clear HX2 HX
        go_wp2
        go_roundw
        case rel => exact ⟨k + 1, by omega, by go_num, S, hI.below ((Below.refl _ _).alloc (Nat.le_refl _) _) hI.lt, HX3.out, bd_mono HS.out (by push_cast; omega), HS0, hB.alloc hB.size _⟩
        case measure => simp [intOf]; omega
    · obtain rfl : k = l.length := by omega
      have h1 := HR.out
      rw [List.drop_length, runS] at h1
      have H1 := Lib.hid h1
      clear h1
      go_wp2_with fail
      refine (within_calls _ 4 m S _ hI hm5).mono ?_
      rintro e w2 ⟨rfl, rfl⟩
      go_wp2
      go_ret
      exact ⟨ret_bool (by rw [H1.out]), hB⟩

attribute [local go_sem] max2_mx max_two in
set_option maxHeartbeats 2000000 in
theorem steady_nil (A : Option Addr) (c : Nat) (m : Nat) (w : World) (hm1 : 1 ≤ m) (hm5 : m ≤ 5) :
    Calls Try.prog 10 #[.int .i64 m, .slice A 0 c] w fun e w' => e = .returned (.bool (inB (S0 2) 4 m)) ∧ Below w.heap.size w w' := by
  go_enter Try.func10, Try.ntmps10
  go_wp2_with fail
  refine (new_calls 2 w (by omega) (by omega)).mono ?_
  rintro e w1 ⟨rfl, hB1, hI1⟩
  go_wp2
  refine wp_loop_rounds 1 ?_
  rw [rounds_succ]
  go_wp2_with fail
  refine (within_calls _ 4 m _ _ hI1 hm5).mono ?_
  rintro e w2 ⟨rfl, rfl⟩
  go_wp2
  go_ret
  exact ⟨rfl, hB1⟩
end Go.Proofs.Ytegajejaadkkiaa
