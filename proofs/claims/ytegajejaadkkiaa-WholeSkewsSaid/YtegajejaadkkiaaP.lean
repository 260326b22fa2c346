import Derived.Test.YtegajejaadkkiaaF
namespace Go.Proofs.Ytegajejaadkkiaa

/-! the plain law: Kadane's walk is the greatest of all sums. -/

theorem acc_ge {d : Int × Int → Int} : ∀ (l : List (Int × Int)) (s m : Int), m ≤ accT (fun x s => s + d x) l s m := by
  intro l
  induction l with
  | nil => intro s m; exact Int.le_refl _
  | cons x r ih => intro s m; exact Int.le_trans (by rw [mx_def]; omega) (ih _ _)

theorem acc_max {d : Int × Int → Int} : ∀ (l : List (Int × Int)) (s m m' : Int), accT (fun x s => s + d x) l s (max m m') = max m (accT (fun x s => s + d x) l s m') := by
  intro l
  induction l with
  | nil => intro s m m'; rfl
  | cons x r ih =>
    intro s m m'
    simp only [accT]
    rw [show mx (max m m') (s + d x) = max m (mx m' (s + d x)) by rw [mx_def, mx_def]; omega, ih]

theorem acc_smax {d : Int × Int → Int} : ∀ (l : List (Int × Int)) (s s' m : Int), accT (fun x s => s + d x) l (max s s') m = max (accT (fun x s => s + d x) l s m) (accT (fun x s => s + d x) l s' m) := by
  intro l
  induction l with
  | nil => intro s s' m; simp [accT]
  | cons x r ih =>
    intro s s' m
    simp only [accT]
    rw [show max s s' + d x = max (s + d x) (s' + d x) by omega, ih]
    rw [show mx m (max (s + d x) (s' + d x)) = max (s' + d x) (mx m (s + d x)) by rw [mx_def, mx_def]; omega, acc_max]
    rw [show max (s' + d x) (mx m (s + d x)) = max (s + d x) (mx m (s' + d x)) by rw [mx_def, mx_def]; omega] 
    rw [acc_max]
    have h1 := acc_ge (d := d) r (s + d x) (mx m (s + d x))
    have h2 := acc_ge (d := d) r (s' + d x) (mx m (s' + d x))
    rw [mx_def] at h1 h2
    simp only [mx_def] at *
    omega

theorem acc_mono {d : Int × Int → Int} (l : List (Int × Int)) {s s' m m' : Int} (hs : s ≤ s') (hm : m ≤ m') : accT (fun x s => s + d x) l s m ≤ accT (fun x s => s + d x) l s' m' := by
  have h1 : max s s' = s' := by omega
  have h2 : max m' m = m' := by omega
  have h3 := acc_max (d := d) l s m' m
  have h4 := acc_smax (d := d) l s s' m'
  rw [h2] at h3
  rw [h1] at h4
  omega

theorem out_idem {d : Int × Int → Int} (l : List (Int × Int)) (m : Int) : outT (fun x s => s + d x) l (accT (fun x s => s + d x) l 0 m) = outT (fun x s => s + d x) l m := by
  cases l with
  | nil => rfl
  | cons x r =>
    show outT _ r (accT _ (x :: r) 0 (accT _ (x :: r) 0 m)) = outT _ r (accT _ (x :: r) 0 m)
    congr 1
    have h := acc_ge (d := d) (x :: r) 0 m
    have h2 := acc_max (d := d) (x :: r) 0 (accT (fun x s => s + d x) (x :: r) 0 m) m
    rw [show max (accT (fun x s => s + d x) (x :: r) 0 m) m = accT (fun x s => s + d x) (x :: r) 0 m by omega] at h2
    rw [h2]; omega

/-- Kadane's walk. -/
def kad (d : Int × Int → Int) : List (Int × Int) → Int → Int → Int
  | [], _, e => e
  | x :: r, m, e => kad d r (max (m + d x) 0) (max e (m + d x))

theorem kad_out {d : Int × Int → Int} : ∀ (l : List (Int × Int)) (m e : Int), 0 ≤ m → kad d l m e = outT (fun x s => s + d x) l (accT (fun x s => s + d x) l m e) := by
  intro l
  induction l with
  | nil => intro m e _; rfl
  | cons x r ih =>
    intro m e hm
    show kad d r _ _ = outT _ r (accT _ (x :: r) 0 (accT _ (x :: r) m e))
    rw [ih _ _ (by omega)]
    have e1 : accT (fun x s => s + d x) (x :: r) m e = accT (fun x s => s + d x) r (m + d x) (max e (m + d x)) := by simp only [accT, mx_def]
    rw [e1, acc_smax]
    generalize hX : accT (fun x s => s + d x) r (m + d x) (max e (m + d x)) = X
    have hXE : max e (m + d x) ≤ X := by rw [← hX]; exact acc_ge _ _ _
    have e2 : accT (fun x s => s + d x) (x :: r) 0 X = X := by
      simp only [accT, mx_def]
      rw [show max X (0 + d x) = max X (0 + d x) from rfl, acc_max]
      have := acc_mono (d := d) r (show 0 + d x ≤ m + d x by omega) (show 0 + d x ≤ max e (m + d x) by omega)
      rw [hX] at this
      omega
    rw [e2]
    have e3 : max X (accT (fun x s => s + d x) r 0 (max e (m + d x))) = accT (fun x s => s + d x) r 0 X := by
      rw [← acc_max, show max X (max e (m + d x)) = X by omega]
    rw [e3, out_idem]

/-! what goS does, cell by cell. -/

theorem upd_eq {S : Nat → Int} {i : Nat} {x : Int} : upd S i x i = x := by simp [upd]
theorem upd_ne {S : Nat → Int} {i j : Nat} {x : Int} (h : j ≠ i) : upd S i x j = S j := by unfold upd; rw [if_neg h]

theorem goS_most {S : Nat → Int} {n : Nat} {t : Int} (hn : n < 5) {a b : Nat} (ha : a < 5) (hb : b < 5) : ∀ k : Nat, k ≤ 5 →
    goS S n t k (1 + a * 5 + b) = if a = b then S (1 + a * 5 + b) else if n = a ∧ b < k then S (1 + a * 5 + b) + t else if n = b ∧ a < k then mx (S (1 + a * 5 + b) - S 0 * t) 0 else S (1 + a * 5 + b) := by
  intro k
  induction k with
  | zero => 
    intro _
    show upd S (51 + n) _ (1 + a * 5 + b) = _
    rw [upd_ne (by omega)]
    simp
  | succ k ih =>
    intro hk
    rw [goS_succ]
    unfold stepO
    by_cases e : k = n
    · rw [if_pos e, ih (by omega)]
      by_cases hab : a = b
      · rw [if_pos hab, if_pos hab]
      · rw [if_neg hab, if_neg hab]
        subst e
        have c1 : (k = a ∧ b < k + 1) ↔ (k = a ∧ b < k) := by omega
        have c2 : (k = b ∧ a < k + 1) ↔ (k = b ∧ a < k) := by omega
        simp only [c1, c2]
    · rw [if_neg e]
      by_cases h1 : 1 + a * 5 + b = 1 + k * 5 + n
      · have hak : a = k := by omega
        have hbn : b = n := by omega
        subst hak hbn
        rw [upd_eq, ih (by omega), goS_zero]
        rw [if_neg e, if_neg e, if_neg (by omega), if_neg (by omega), if_neg (by omega), if_pos (by omega)]
      · rw [upd_ne h1, upd_ne (by omega)]
        by_cases h2 : 1 + a * 5 + b = 1 + n * 5 + k
        · have hak : a = n := by omega
          have hbn : b = k := by omega
          subst hak hbn
          rw [upd_eq, ih (by omega), if_neg (by omega), if_neg (by omega), if_neg (by omega), if_neg (by omega), if_pos (by omega)]
        · rw [upd_ne h2, ih (by omega)]
          by_cases hab : a = b
          · rw [if_pos hab, if_pos hab]
          · rw [if_neg hab, if_neg hab]
            have c1 : (n = a ∧ b < k + 1) ↔ (n = a ∧ b < k) := by omega
            have c2 : (n = b ∧ a < k + 1) ↔ (n = b ∧ a < k) := by omega
            simp only [c1, c2]

theorem goS_ever {S : Nat → Int} {n : Nat} {t : Int} (hn : n < 5) {a b : Nat} (ha : a < 5) (hb : b < 5) : ∀ k : Nat, k ≤ 5 →
    goS S n t k (26 + a * 5 + b) = if a = b then S (26 + a * 5 + b) else if n = a ∧ b < k then mx (S (26 + a * 5 + b)) (S (1 + a * 5 + b) + t) else S (26 + a * 5 + b) := by
  intro k
  induction k with
  | zero => 
    intro _
    show upd S (51 + n) _ (26 + a * 5 + b) = _
    rw [upd_ne (by omega)]
    simp
  | succ k ih =>
    intro hk
    rw [goS_succ]
    unfold stepO
    by_cases e : k = n
    · rw [if_pos e, ih (by omega)]
      by_cases hab : a = b
      · rw [if_pos hab, if_pos hab]
      · rw [if_neg hab, if_neg hab]
        subst e
        have c1 : (k = a ∧ b < k + 1) ↔ (k = a ∧ b < k) := by omega
        simp only [c1]
    · rw [if_neg e, upd_ne (by omega)]
      by_cases h2 : 26 + a * 5 + b = 26 + n * 5 + k
      · have hak : a = n := by omega
        have hbn : b = k := by omega
        subst hak hbn
        rw [upd_eq, ih (by omega), goS_most hn hn (by omega) b (by omega)]
        rw [if_neg (by omega), if_neg (by omega), if_neg (by omega), if_neg (by omega), if_neg (by omega), if_neg (by omega), if_pos (by omega)]
      · rw [upd_ne h2, upd_ne (by omega), ih (by omega)]
        by_cases hab : a = b
        · rw [if_pos hab, if_pos hab]
        · rw [if_neg hab, if_neg hab]
          have c1 : (n = a ∧ b < k + 1) ↔ (n = a ∧ b < k) := by omega
          simp only [c1]

def runN (node : Int → Nat) : List (Int × Int) → (Nat → Int) → (Nat → Int)
  | [], S => S
  | x :: r, S => runN node r (goS S (node x.1) (x.2 % 65) 5)

def dl (node : Int → Nat) (r : Int) (a b : Nat) (x : Int × Int) : Int :=
  if a = b then 0 else if node x.1 = a then x.2 % 65 else if node x.1 = b then - (r * (x.2 % 65)) else 0

theorem gstep_dl (node : Int → Nat) (nd : Int → Int) (r : Int) (a b : Nat) (x : Int × Int) (s : Int) (h : nd x.1 = node x.1) : gstep nd r a b x s = s + dl node r a b x := by
  unfold gstep dl
  rw [h]
  by_cases e : a = b
  · rw [if_pos e, if_pos (by omega)]; omega
  · rw [if_neg e, if_neg (by omega)]
    by_cases e1 : node x.1 = a
    · rw [if_pos e1, if_pos (by omega)]
    · rw [if_neg e1, if_neg (by omega)]
      by_cases e2 : node x.1 = b
      · rw [if_pos e2, if_pos (by omega)]; omega
      · rw [if_neg e2, if_neg (by omega)]; omega

theorem runN_kad {node : Int → Nat} (hnode : ∀ x, node x < 5) {a b : Nat} (ha : a < 5) (hb : b < 5) (r : Int) : ∀ (l : List (Int × Int)) (S : Nat → Int), S 0 = r → 
    0 ≤ S (1 + a * 5 + b) → S (1 + a * 5 + b) ≤ S (26 + a * 5 + b) → 0 ≤ r → (∀ x ∈ l, 0 ≤ x.2) → (a = b → S (1 + a * 5 + b) = 0) →
    runN node l S (26 + a * 5 + b) = kad (dl node r a b) l (S (1 + a * 5 + b)) (S (26 + a * 5 + b)) := by
  intro l
  induction l with
  | nil => intro S _ _ _ _ _ _; rfl
  | cons x l ih =>
    intro S h0 hm hme hr hx hz
    have hn := hnode x.1
    have ht : 0 ≤ x.2 % 65 := by omega
    have e1 := goS_most (S := S) (n := node x.1) (t := x.2 % 65) hn ha hb 5 (by omega)
    have e2 := goS_ever (S := S) (n := node x.1) (t := x.2 % 65) hn ha hb 5 (by omega)
    rw [h0] at e1
    have hp : 0 ≤ r * (x.2 % 65) := Int.mul_nonneg hr ht
    have e3 : goS S (node x.1) (x.2 % 65) 5 (1 + a * 5 + b) = max (S (1 + a * 5 + b) + dl node r a b x) 0 := by
      rw [e1]; unfold dl
      split
      · rename_i h; rw [hz h]; rfl
      · by_cases e : node x.1 = a
        · rw [if_pos ⟨e, hb⟩, if_pos e]; omega
        · rw [if_neg (by omega), if_neg e]
          by_cases e' : node x.1 = b
          · rw [if_pos ⟨e', ha⟩, if_pos e', mx_def]; omega
          · rw [if_neg (by omega), if_neg e']; omega
    have e4 : goS S (node x.1) (x.2 % 65) 5 (26 + a * 5 + b) = max (S (26 + a * 5 + b)) (S (1 + a * 5 + b) + dl node r a b x) := by
      rw [e2]; unfold dl
      split
      · omega
      · by_cases e : node x.1 = a
        · rw [if_pos ⟨e, hb⟩, if_pos e, mx_def]
        · rw [if_neg (by omega), if_neg e]
          by_cases e' : node x.1 = b
          · rw [if_pos e']; omega
          · rw [if_neg e']; omega
    show runN node l _ _ = kad _ l _ _
    rw [ih _ (by rw [goS_zero]; exact h0) (by rw [e3]; omega) (by rw [e3, e4]; omega) hr (fun y hy => hx y (List.mem_cons_of_mem _ hy)) (fun h => by
      rw [e3, hz h]; unfold dl; rw [if_pos h]; rfl), e3, e4]

theorem outT_congr {f g : Int × Int → Int → Int} (h : ∀ x s, f x s = g x s) (l : List (Int × Int)) (m : Int) : outT f l m = outT g l m := by
  have : f = g := funext fun x => funext fun s => h x s
  rw [this]

theorem runN_out {node : Int → Nat} {nd : Int → Int} (hnode : ∀ x, node x < 5) (hnd : ∀ x, nd x = node x) {a b : Nat} (ha : a < 5) (hb : b < 5) (r : Int) (hr : 0 ≤ r) (l : List (Int × Int)) (hx : ∀ x ∈ l, 0 ≤ x.2) :
    runN node l (S0 r) (26 + a * 5 + b) = outT (gstep nd r a b) l 0 := by
  have z : ∀ i, 0 < i → S0 r i = 0 := fun i hi => by unfold S0; rw [if_neg (by omega)]
  rw [runN_kad hnode ha hb r l (S0 r) rfl (by rw [z _ (by omega)]; omega) (by rw [z _ (by omega), z _ (by omega)]; omega) hr hx (fun _ => z _ (by omega)), z _ (by omega), z _ (by omega), kad_out _ _ _ (by omega)]
  rw [outT_congr (gstep_dl node nd r a b · · (hnd _)), out_idem]

/-! the two runs. -/

theorem nodeOf_lt (m : Nat) (hm1 : 1 ≤ m) (hm5 : m ≤ 5) (x : Int) : nodeOf m (x % 5 - 5) < 5 ∧ tnode m x = (nodeOf m (x % 5 - 5) : Int) := by
  have hb := tnode_bd (x := x) (m := m) (by omega) (by omega)
  have hlt : -(m : Int) < (x % 5 - 5).tmod m := by
    rw [show x % 5 - 5 = -(5 - x % 5) by omega, Int.neg_tmod, Int.tmod_eq_emod_of_nonneg (by omega)]
    have h4 := Int.emod_lt_of_pos (5 - x % 5) (show 0 < (m : Int) by omega)
    omega
  unfold nodeOf tnode
  generalize (x % 5 - 5).tmod (m : Int) = q at *
  by_cases h : q < 0
  · rw [if_pos h, Int.tmod_eq_emod_of_nonneg (by omega), Int.emod_eq_of_lt (by omega) (by omega)]
    omega
  · rw [if_neg h]
    have e : q = 0 := by omega
    rw [e]
    simp

def stepsOf (l : List (Int × Int)) : List (Int × Int × Int) := l.flatMap fun x => [(10, x.1 % 5 - 5, x.2 % 65), (17, 0, 0)]

theorem runS_steps (m : Int) : ∀ (l : List (Int × Int)) (S : Nat → Int), runS m (stepsOf l) S = runN (fun x => nodeOf m (x % 5 - 5)) l S := by
  intro l
  induction l with
  | nil => intro S; rfl
  | cons x r ih =>
    intro S
    show runS m ((10, x.1 % 5 - 5, x.2 % 65) :: (17, 0, 0) :: stepsOf r) S = runN _ r _
    simp only [runS, if_true]
    rw [if_neg (by omega), ih]

theorem steady_row {m : Nat} (hm1 : 1 ≤ m) (hm5 : m ≤ 5) {l : List (Int × Int)} (hx : ∀ x ∈ l, 0 ≤ x.2) {a b : Nat} (ha : a < 5) (hb : b < 5) :
    runS m (stepsOf l) (S0 2) (26 + a * 5 + b) = outT (gstep (tnode m) 2 a b) l 0 := by
  rw [runS_steps]
  exact runN_out (fun x => (nodeOf_lt m hm1 hm5 x).1) (fun x => (nodeOf_lt m hm1 hm5 x).2) ha hb 2 (by omega) l hx

def runG (l : List (Int × Int)) (S : Nat → Int) : Nat → Int := l.foldl (fun S x => goS S (x.1 % 5).toNat (x.2 % 65) 5) S

theorem runG_runN : ∀ (l : List (Int × Int)) (S : Nat → Int), runG l S = runN (fun x => (x % 5).toNat) l S := by
  intro l
  induction l with
  | nil => intro S; rfl
  | cons x r ih => intro S; exact ih _

theorem most_row {r : Int} (hr : 0 ≤ r) {l : List (Int × Int)} (hx : ∀ x ∈ l, 0 ≤ x.2) {a b : Nat} (ha : a < 5) (hb : b < 5) :
    runG l (S0 r) (26 + a * 5 + b) = outT (gstep mnode r a b) l 0 := by
  rw [runG_runN]
  refine runN_out (fun x => ?_) (fun x => ?_) ha hb r hr l hx
  · show (x % 5).toNat < 5
    omega
  · show x % 5 % 5 = ((x % 5).toNat : Int)
    omega
end Go.Proofs.Ytegajejaadkkiaa
