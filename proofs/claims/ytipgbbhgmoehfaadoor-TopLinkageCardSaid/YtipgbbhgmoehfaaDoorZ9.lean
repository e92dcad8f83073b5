import Derived.Test.YtipgbbhgmoehfaaDoorZ8
/-
  Counts of clusters at thresholds (plain).
-/
namespace Go.Proofs.YtipgbbhgmoehfaaDoor
set_option linter.unusedSimpArgs false
set_option linter.unusedVariables false

theorem theta_count {p q o : Nat → Nat} {m n : Nat} {x : Nat → Int} (hb : ByWeight m x o) (hpq : ∀ j, j < m → p j < n ∧ q j < n) (th : Int) :
    ∃ k, k ≤ (fl p q o m).length ∧ (∀ i, i < k → x (sel (fl p q o m) i) ≤ th) ∧ (∀ i, k ≤ i → i < (fl p q o m).length → th < x (sel (fl p q o m) i)) ∧ roots n (labLe p q m x th) + k = n := by
  obtain ⟨k, h0, h1, h2, h3⟩ := fl_theta (p := p) (q := q) hb th
  refine ⟨k, h0, h1, h2, ?_⟩
  rw [← h3]
  exact (fl_mrg (p := p) (q := q) (o := o) fun i hi => hpq _ (hb.lt hi)).roots h0
theorem all_count {p q o : Nat → Nat} {m n : Nat} {x : Nat → Int} (hb : ByWeight m x o) (hpq : ∀ j, j < m → p j < n ∧ q j < n) : roots n (labK p q id m) + (fl p q o m).length = n := by
  have h1 := (fl_mrg (p := p) (q := q) (o := o) fun i hi => hpq _ (hb.lt hi)).roots (Nat.le_refl _)
  unfold tlab at h1
  rw [labK_pull, fl_lab] at h1
  have h2 : labK p q o m = labK p q id m := by
    unfold labK
    refine foldl_perm ?_ _
    have := hb.perm.map fun j => (p j, q j)
    rw [List.map_map] at this
    exact this
  rwa [h2] at h1
theorem same_roots {p q o : Nat → Nat} {m n k : Nat} {x : Nat → Int} (hb : ByWeight m x o) (hpq : ∀ j, j < m → p j < n ∧ q j < n) {th : Int} (h0 : k ≤ (fl p q o m).length) (h1 : ∀ i, i < k → x (sel (fl p q o m) i) ≤ th) (h2 : ∀ i, k ≤ i → i < (fl p q o m).length → th < x (sel (fl p q o m) i)) :
    roots n (tlab (fun i => p (sel (fl p q o m) i)) (fun i => q (sel (fl p q o m) i)) k) = roots n (labLe p q m x th) := by
  obtain ⟨k', g0, g1, g2, g3⟩ := theta_count hb hpq th
  have e : k' = k := by
    rcases Nat.lt_trichotomy k' k with e | e | e
    · have a := h1 k' e
      have b := g2 k' (Nat.le_refl _) (by omega)
      omega
    · exact e
    · have a := g1 k e
      have b := h2 k (Nat.le_refl _) (by omega)
      omega
  have h4 := (fl_mrg (p := p) (q := q) (o := o) fun i hi => hpq _ (hb.lt hi)).roots h0
  omega

end Go.Proofs.YtipgbbhgmoehfaaDoor

/-
  Single linkage of the distances of a tree of merges has the tree's heights (plain).
-/
namespace Go.Proofs.YtipgbbhgmoehfaaDoor
set_option linter.unusedSimpArgs false
set_option linter.unusedVariables false

theorem many_mono {f g : Nat → Bool} : ∀ {n : Nat}, (∀ a, a < n → f a = true → g a = true) → many n f ≤ many n g
  | 0, _ => Nat.le_refl _
  | n + 1, h => by
    have ih := many_mono (f := f) (g := g) (n := n) fun a ha => h a (by omega)
    rw [many_succ, many_succ]
    have := h n (by omega)
    cases hf : f n <;> cases hg : g n <;> simp_all <;> omega
theorem many_strict {f g : Nat → Bool} {n r : Nat} (h : ∀ a, a < n → f a = true → g a = true) (hr : r < n) (h1 : f r = false) (h2 : g r = true) : many n f < many n g := by
  induction n with
  | zero => omega
  | succ n ih =>
    rw [many_succ, many_succ]
    by_cases e : r = n
    · subst e
      have := many_mono (f := f) (g := g) (n := r) fun a ha => h a (by omega)
      rw [h1, h2]
      simp
      omega
    · have := ih (fun a ha => h a (by omega)) (by omega)
      have h3 := h n (by omega)
      cases hf : f n <;> cases hg : g n <;> simp_all <;> omega
theorem many_less {f g : Nat → Bool} : ∀ {n : Nat}, many n f < many n g → ∃ r, r < n ∧ g r = true ∧ f r = false
  | 0, h => absurd h (Nat.lt_irrefl _)
  | n + 1, h => by
    rw [many_succ, many_succ] at h
    by_cases e : g n = true ∧ f n = false
    · exact ⟨n, by omega, e⟩
    · have h2 : many n f < many n g := by
        cases hf : f n <;> cases hg : g n <;> simp_all <;> omega
      obtain ⟨r, hr, h3⟩ := many_less h2
      exact ⟨r, by omega, h3⟩
/-- P refines Q. -/
def Ref (n : Nat) (P Q : Nat → Nat) : Prop := ∀ x y, x < n → y < n → P x = P y → Q x = Q y
theorem ref_root {n : Nat} {P Q : Nat → Nat} (hP : Labs n P) (hQ : Labs n Q) (h : Ref n P Q) {r : Nat} (hr : r < n) (e : Q r = r) : P r = r := by
  have h1 := (hP r hr).1
  have h2 := h (P r) r (hP.lt hr) hr (hP r hr).2
  have h3 := (hQ (P r) (hP.lt hr)).1
  omega
theorem ref_count {n : Nat} {P Q : Nat → Nat} (hP : Labs n P) (hQ : Labs n Q) (h : Ref n P Q) {x y : Nat} (hx : x < n) (hy : y < n) (e : Q x = Q y) (hne : P x ≠ P y) : roots n Q < roots n P := by
  have main : ∀ r, r < n → P r = r → Q r ≠ r → roots n Q < roots n P := fun r hr h1 h2 => by
    unfold roots
    exact many_strict (r := r) (fun a ha hf => by
      have := ref_root hP hQ h ha (by simpa using hf)
      simpa using this) hr (by simpa using h2) (by simpa using h1)
  have px := hP x hx
  have py := hP y hy
  have q1 := h (P x) x (hP.lt hx) hx px.2
  have q2 := h (P y) y (hP.lt hy) hy py.2
  by_cases e1 : Q (P x) = P x
  · refine main (P y) (hP.lt hy) py.2 fun e2 => hne ?_
    omega
  · exact main (P x) (hP.lt hx) px.2 e1
theorem ref_less {n : Nat} {P Q : Nat → Nat} (hP : Labs n P) (hQ : Labs n Q) (h : roots n Q < roots n P) : ∃ x y, x < n ∧ y < n ∧ Q x = Q y ∧ P x ≠ P y := by
  unfold roots at h
  obtain ⟨r, hr, h1, h2⟩ := many_less h
  have e1 : P r = r := by simpa using h1
  have e2 : Q r ≠ r := by simpa using h2
  have hq := hQ r hr
  refine ⟨r, Q r, hr, hQ.lt hr, hq.2.symm, fun e => ?_⟩
  have := (hP (Q r) (hQ.lt hr)).1
  omega

/-- The distances of a tree of merges. -/
structure Dist (n c : Nat) (p q : Nat → Nat) (h : Nat → Int) (D : Nat → Nat → Int) : Prop where
  mrg : Mrg n p q c
  sorted : ∀ i j, i ≤ j → j < c → h i ≤ h j
  sym : ∀ u v, u < n → v < n → D u v = D v u
  joined : ∀ u v, u < n → v < n → u ≠ v → ∃ k, k < c ∧ tlab p q k u ≠ tlab p q k v ∧ tlab p q (k + 1) u = tlab p q (k + 1) v ∧ D u v = h k
/-- After t merges of clusters: their labels, and the least distances between them. -/
structure Lk (n c : Nat) (p q : Nat → Nat) (h : Nat → Int) (D : Nat → Nat → Int) (t : Nat) (P : Nat → Nat) (B : Nat → Nat → Int) : Prop where
  labs : Labs n P
  cnt : roots n P + t = n
  fine : ∀ k, k ≤ c → (∀ i, i < c → 0 < t → h i ≤ h (t - 1) → i < k) → Ref n P (tlab p q k)
  coarse : ∀ k, k ≤ t → k < c → (k = 0 ∨ h (k - 1) < h k) → Ref n (tlab p q k) P
  low : ∀ x y, x < n → y < n → P x ≠ P y → B (P x) (P y) ≤ D x y
  att : ∀ a b, a < n → b < n → P a = a → P b = b → a ≠ b → ∃ x y, x < n ∧ y < n ∧ P x = a ∧ P y = b ∧ B a b = D x y
theorem Lk.start {n c : Nat} {p q : Nat → Nat} {h : Nat → Int} {D : Nat → Nat → Int} : Lk n c p q h D 0 id D :=
  ⟨Labs.id n, by rw [roots_id]; rfl, fun k _ _ x y _ _ e => by rw [show x = y from e], fun k hk _ _ x y _ _ e => by
    obtain rfl : k = 0 := by omega
    exact e, fun x y _ _ _ => Int.le_refl _, fun a b ha hb _ _ _ => ⟨a, b, ha, hb, rfl, rfl, rfl⟩⟩
theorem first_of {h : Nat → Int} : ∀ t, (∀ i j, i ≤ j → j ≤ t → h i ≤ h j) → ∃ k, k ≤ t ∧ h k = h t ∧ (k = 0 ∨ h (k - 1) < h k)
  | 0, _ => ⟨0, Nat.le_refl _, rfl, .inl rfl⟩
  | t + 1, hs => by
    by_cases e : h t = h (t + 1)
    · obtain ⟨k, h1, h2, h3⟩ := first_of t fun i j hi hj => hs i j hi (by omega)
      exact ⟨k, by omega, by rw [h2, e], h3⟩
    · have := hs t (t + 1) (by omega) (Nat.le_refl _)
      exact ⟨t + 1, Nat.le_refl _, rfl, .inr (by rw [Nat.add_sub_cancel]; omega)⟩

section
variable {n c : Nat} {p q : Nat → Nat} {h : Nat → Int} {D : Nat → Nat → Int} (hD : Dist n c p q h D)
include hD
/-- Two elements that are apart are no nearer than the next height. -/
theorem Dist.far {t : Nat} {P : Nat → Nat} {B : Nat → Nat → Int} (s : Lk n c p q h D t P B) (ht : t < c) {x y : Nat} (hx : x < n) (hy : y < n) (hne : P x ≠ P y) : h t ≤ D x y := by
  obtain ⟨k, k1, k2, k3⟩ := first_of t fun i j hi hj => hD.sorted i j hi (by omega)
  have hxy : x ≠ y := fun e => hne (by rw [e])
  obtain ⟨K, K1, K2, K3, K4⟩ := hD.joined x y hx hy hxy
  have hk : k ≤ K := by
    by_cases e : k ≤ K
    · exact e
    · exact absurd (s.coarse k k1 (by omega) k3 x y hx hy (tlab_mono' (by omega) K3)) hne
  have := hD.sorted k K hk K1
  omega
/-- Some two elements that are apart are as near as that. -/
theorem Dist.near {t : Nat} {P : Nat → Nat} {B : Nat → Nat → Int} (s : Lk n c p q h D t P B) (ht : t < c) : ∃ x y, x < n ∧ y < n ∧ P x ≠ P y ∧ D x y ≤ h t := by
  -- the number of merges up to this height
  have hk : ∃ k, t < k ∧ k ≤ c ∧ (∀ i, i < k → h i ≤ h t) ∧ ∀ i, k ≤ i → i < c → h t < h i := by
    have main : ∀ d, t + 1 + d ≤ c → (∀ i, i < t + 1 + d → h i ≤ h t) → ∃ k, t < k ∧ k ≤ c ∧ (∀ i, i < k → h i ≤ h t) ∧ ∀ i, k ≤ i → i < c → h t < h i := by
      intro d
      induction hdd : c - (t + 1 + d) generalizing d with
      | zero => intro h1 h2; exact ⟨t + 1 + d, by omega, h1, h2, fun i hi hi2 => by omega⟩
      | succ m ih =>
        intro h1 h2
        by_cases e : h (t + 1 + d) ≤ h t
        · exact ih (d + 1) (by omega) (by omega) fun i hi => by
            by_cases e2 : i = t + 1 + d
            · rw [e2]; exact e
            · exact h2 i (by omega)
        · exact ⟨t + 1 + d, by omega, by omega, h2, fun i hi hi2 => by
            have := hD.sorted (t + 1 + d) i hi hi2
            omega⟩
    exact main 0 (by omega) fun i hi => hD.sorted i t (by omega) ht
  obtain ⟨k, k0, k1, k2, k3⟩ := hk
  have hQ := hD.mrg.labs k1
  have hr := hD.mrg.roots k1
  have hc := s.cnt
  obtain ⟨x, y, hx, hy, e1, e2⟩ := ref_less s.labs hQ (by omega)
  refine ⟨x, y, hx, hy, e2, ?_⟩
  have hxy : x ≠ y := fun e => e2 (by rw [e])
  obtain ⟨K, K1, K2, K3, K4⟩ := hD.joined x y hx hy hxy
  rw [K4]
  refine k2 K ?_
  by_cases e : K < k
  · exact e
  · exact absurd (tlab_mono' (by omega) e1) K2
/-- The two nearest clusters are united. -/
theorem Dist.step {t a b : Nat} {P : Nat → Nat} {B : Nat → Nat → Int} (s : Lk n c p q h D t P B) (ht : t < c) (ha : a < n) (hb : b < n) (ra : P a = a) (rb : P b = b) (hab : a < b)
    (hmin : ∀ x y, x < n → y < n → P x = x → P y = y → x ≠ y → B a b ≤ B x y) (B' : Nat → Nat → Int)
    (hB' : ∀ x y, x < n → y < n → P x = x → P y = y → x ≠ b → y ≠ b → x ≠ y → B' x y = if x = a then min (B a y) (B b y) else if y = a then min (B a x) (B b x) else B x y) (hsym : ∀ x y, x < n → y < n → P x = x → P y = y → B x y = B y x) :
    B a b = h t ∧ Lk n c p q h D (t + 1) (uni P (a, b)) B' := by
  have hne : a ≠ b := by omega
  have hpab : P a ≠ P b := by rw [ra, rb]; exact hne
  have hht : B a b = h t := by
    obtain ⟨x, y, hx, hy, e1, e2, e3⟩ := s.att a b ha hb ra rb hne
    have h1 := hD.far s ht hx hy (by rw [e1, e2]; exact hne)
    obtain ⟨x', y', hx', hy', e4, e5⟩ := hD.near s ht
    have h2 := s.low x' y' hx' hy' e4
    have h3 := hmin (P x') (P y') (s.labs.lt hx') (s.labs.lt hy') (s.labs x' hx').2 (s.labs y' hy').2 e4
    omega
  refine ⟨hht, ?_⟩
  have hu : ∀ x, uni P (a, b) x = if P x = b then a else P x := fun x => by
    show mer P (P a) (P b) x = _
    unfold mer
    rw [ra, rb]
    split
    · split <;> omega
    · split <;> omega
  have hlabs := s.labs.uni (p := (a, b)) ha hb
  have hcnt := roots_uni (n := n) s.labs (p := (a, b)) ha hb hpab
  obtain ⟨x0, y0, hx0, hy0, e1, e2, e3⟩ := s.att a b ha hb ra rb hne
  obtain ⟨K, K1, K2, K3, K4⟩ := hD.joined x0 y0 hx0 hy0 (fun e => hne (by rw [← e1, ← e2, e]))
  have hcn := s.cnt
  have hfine : ∀ k, k ≤ c → (∀ i, i < c → 0 < t + 1 → h i ≤ h (t + 1 - 1) → i < k) → Ref n (uni P (a, b)) (tlab p q k) := by
    intro k hk hi x y hx hy e
    have hold := s.fine k hk fun i hi1 ht0 hi2 => hi i hi1 (by omega) (by
      have := hD.sorted (t - 1) t (by omega) ht
      rw [Nat.add_sub_cancel]
      omega)
    have hxy : tlab p q k x0 = tlab p q k y0 := by
      have hKk : K < k := hi K K1 (by omega) (by rw [Nat.add_sub_cancel]; omega)
      exact tlab_mono' (by omega) K3
    rw [hu, hu] at e
    by_cases ex : P x = b
    · rw [if_pos ex] at e
      by_cases ey : P y = b
      · exact hold x y hx hy (by rw [ex, ey])
      · rw [if_neg ey] at e
        have g1 := hold x y0 hx hy0 (by rw [ex, e2])
        have g2 := hold y x0 hy hx0 (by rw [← e, e1])
        rw [g1, g2, hxy]
    · rw [if_neg ex] at e
      by_cases ey : P y = b
      · rw [if_pos ey] at e
        have g1 := hold y y0 hy hy0 (by rw [ey, e2])
        have g2 := hold x x0 hx hx0 (by rw [e, e1])
        rw [g1, g2, hxy]
      · rw [if_neg ey] at e
        exact hold x y hx hy e
  refine ⟨hlabs, by omega, hfine, ?_, ?_, ?_⟩
  · intro k hk hkc hjump
    by_cases e : k = t + 1
    · subst e
      have hj : h t < h (t + 1) := by
        rcases hjump with h0 | h0
        · omega
        · simpa using h0
      have hf := hfine (t + 1) (by omega) fun i hi _ hle => by
        rw [Nat.add_sub_cancel] at hle
        by_cases e : i < t + 1
        · exact e
        · have := hD.sorted (t + 1) i (by omega) hi; omega
      intro x y hx hy e
      by_cases e2 : uni P (a, b) x = uni P (a, b) y
      · exact e2
      · have := ref_count hlabs (hD.mrg.labs (by omega)) hf hx hy e e2
        have := hD.mrg.roots (i := t + 1) (by omega)
        omega
    · intro x y hx hy e3
      have := s.coarse k (by omega) hkc hjump x y hx hy e3
      rw [hu, hu, this]
  · intro x y hx hy hne2
    have rx := s.labs x hx
    have ry := s.labs y hy
    have lx := s.labs.lt hx
    have ly := s.labs.lt hy
    rw [hu, hu] at hne2 ⊢
    have hr1 : ∀ z, z < n → P (P z) = P z := fun z hz => (s.labs z hz).2
    by_cases ex : P x = b
    · rw [if_pos ex] at hne2 ⊢
      by_cases ey : P y = b
      · rw [if_pos ey] at hne2; exact absurd rfl hne2
      · rw [if_neg ey] at hne2 ⊢
        rw [hB' a (P y) ha ly ra ry.2 hne ey hne2, if_pos rfl]
        have h1 := s.low x y hx hy (by rw [ex]; exact fun e => ey e.symm)
        rw [ex] at h1
        omega
    · rw [if_neg ex] at hne2 ⊢
      by_cases ey : P y = b
      · rw [if_pos ey] at hne2 ⊢
        rw [hB' (P x) a lx ha rx.2 ra ex hne hne2]
        have h1 := s.low x y hx hy (by rw [ey]; exact ex)
        rw [ey, hsym (P x) b lx hb rx.2 rb] at h1
        rw [if_neg hne2, if_pos rfl]
        omega
      · rw [if_neg ey] at hne2 ⊢
        have h1 := s.low x y hx hy hne2
        rw [hB' (P x) (P y) lx ly rx.2 ry.2 ex ey hne2]
        by_cases e4 : P x = a
        · rw [if_pos e4]
          rw [e4] at h1
          omega
        · rw [if_neg e4]
          by_cases e5 : P y = a
          · rw [if_pos e5]
            rw [e5, hsym (P x) a lx ha rx.2 ra] at h1
            omega
          · rw [if_neg e5]; exact h1
  · intro x y hx hy rx ry hxy
    rw [hu] at rx ry
    have fx : P x = x ∧ x ≠ b := by
      by_cases e : P x = b
      · rw [if_pos e] at rx
        have := s.labs x hx
        rw [← rx, ra] at e
        omega
      · rw [if_neg e] at rx; exact ⟨rx, fun e2 => e (by rw [rx, e2])⟩
    have fy : P y = y ∧ y ≠ b := by
      by_cases e : P y = b
      · rw [if_pos e] at ry
        rw [← ry, ra] at e
        omega
      · rw [if_neg e] at ry; exact ⟨ry, fun e2 => e (by rw [ry, e2])⟩
    rw [hB' x y hx hy fx.1 fy.1 fx.2 fy.2 hxy]
    have back : ∀ z w, z < n → P z = w → w ≠ b → uni P (a, b) z = w := fun z w hz e1 e2 => by rw [hu, if_neg (by omega), e1]
    have backb : ∀ z, z < n → P z = b → uni P (a, b) z = a := fun z hz e1 => by rw [hu, if_pos e1]
    by_cases e4 : x = a
    · subst e4
      rw [if_pos rfl]
      obtain ⟨x1, y1, g1, g2, g3, g4, g5⟩ := s.att x y ha hy ra fy.1 hxy
      obtain ⟨x2, y2, k1, k2, k3, k4, k5⟩ := s.att b y hb hy rb fy.1 (Ne.symm fy.2)
      by_cases e5 : B x y ≤ B b y
      · exact ⟨x1, y1, g1, g2, back _ _ g1 g3 fx.2, back _ _ g2 g4 fy.2, by rw [Int.min_eq_left e5, g5]⟩
      · exact ⟨x2, y2, k1, k2, backb _ k1 k3, back _ _ k2 k4 fy.2, by rw [Int.min_eq_right (by omega), k5]⟩
    · rw [if_neg e4]
      by_cases e6 : y = a
      · subst e6
        rw [if_pos rfl]
        obtain ⟨x1, y1, g1, g2, g3, g4, g5⟩ := s.att x y hx ha fx.1 ra hxy
        obtain ⟨x2, y2, k1, k2, k3, k4, k5⟩ := s.att x b hx hb fx.1 rb fx.2
        rw [hsym x y hx ha fx.1 ra] at g5
        rw [hsym x b hx hb fx.1 rb] at k5
        by_cases e5 : B y x ≤ B b x
        · exact ⟨x1, y1, g1, g2, back _ _ g1 g3 fx.2, back _ _ g2 g4 fy.2, by rw [Int.min_eq_left e5, g5]⟩
        · exact ⟨x2, y2, k1, k2, back _ _ k1 k3 fx.2, backb _ k2 k4, by rw [Int.min_eq_right (by omega), k5]⟩
      · rw [if_neg e6]
        obtain ⟨x1, y1, g1, g2, g3, g4, g5⟩ := s.att x y hx hy fx.1 fy.1 hxy
        exact ⟨x1, y1, g1, g2, back _ _ g1 g3 fx.2, back _ _ g2 g4 fy.2, g5⟩
end

end Go.Proofs.YtipgbbhgmoehfaaDoor

/-
  Minimax distances and heights do not depend on the order (plain).
-/
namespace Go.Proofs.YtipgbbhgmoehfaaDoor
set_option linter.unusedSimpArgs false
set_option linter.unusedVariables false

theorem mm_theta {p q o : Nat → Nat} {m : Nat} {x : Nat → Int} (hb : ByWeight m x o) {k u v : Nat} (hk : k < (fl p q o m).length)
    (h1 : tlab (fun i => p (sel (fl p q o m) i)) (fun i => q (sel (fl p q o m) i)) k u ≠ tlab (fun i => p (sel (fl p q o m) i)) (fun i => q (sel (fl p q o m) i)) k v)
    (h2 : tlab (fun i => p (sel (fl p q o m) i)) (fun i => q (sel (fl p q o m) i)) (k + 1) u = tlab (fun i => p (sel (fl p q o m) i)) (fun i => q (sel (fl p q o m) i)) (k + 1) v) (th : Int) :
    labLe p q m x th u = labLe p q m x th v ↔ x (sel (fl p q o m) k) ≤ th := by
  obtain ⟨k', g0, g1, g2, g3⟩ := fl_theta (p := p) (q := q) hb th
  rw [← g3]
  constructor
  · intro e
    by_cases hh : x (sel (fl p q o m) k) ≤ th
    · exact hh
    · have : k' ≤ k := by
        by_cases hkk : k' ≤ k
        · exact hkk
        · exact absurd (g1 k (by omega)) hh
      exact absurd (tlab_mono' this e) h1
  · intro hh
    have : k < k' := by
      by_cases hkk : k < k'
      · exact hkk
      · have := g2 k (by omega) hk; omega
    exact tlab_mono' (by omega) h2
theorem mm_same {p q o o' : Nat → Nat} {m : Nat} {x : Nat → Int} (hb : ByWeight m x o) (hb' : ByWeight m x o') {k k' u v : Nat} (hk : k < (fl p q o m).length) (hk' : k' < (fl p q o' m).length)
    (h1 : tlab (fun i => p (sel (fl p q o m) i)) (fun i => q (sel (fl p q o m) i)) k u ≠ tlab (fun i => p (sel (fl p q o m) i)) (fun i => q (sel (fl p q o m) i)) k v)
    (h2 : tlab (fun i => p (sel (fl p q o m) i)) (fun i => q (sel (fl p q o m) i)) (k + 1) u = tlab (fun i => p (sel (fl p q o m) i)) (fun i => q (sel (fl p q o m) i)) (k + 1) v)
    (h1' : tlab (fun i => p (sel (fl p q o' m) i)) (fun i => q (sel (fl p q o' m) i)) k' u ≠ tlab (fun i => p (sel (fl p q o' m) i)) (fun i => q (sel (fl p q o' m) i)) k' v)
    (h2' : tlab (fun i => p (sel (fl p q o' m) i)) (fun i => q (sel (fl p q o' m) i)) (k' + 1) u = tlab (fun i => p (sel (fl p q o' m) i)) (fun i => q (sel (fl p q o' m) i)) (k' + 1) v) :
    x (sel (fl p q o m) k) = x (sel (fl p q o' m) k') := by
  have a := mm_theta hb hk h1 h2
  have b := mm_theta hb' hk' h1' h2'
  have e1 := (b _).1 ((a _).2 (Int.le_refl _))
  have e2 := (a _).1 ((b _).2 (Int.le_refl _))
  omega
/-- What is joined in one order is joined in every order. -/
theorem mm_joined {p q o o' : Nat → Nat} {m : Nat} {x : Nat → Int} (hb : ByWeight m x o) (hb' : ByWeight m x o') {k u v : Nat} (hk : k < (fl p q o m).length)
    (h1 : tlab (fun i => p (sel (fl p q o m) i)) (fun i => q (sel (fl p q o m) i)) k u ≠ tlab (fun i => p (sel (fl p q o m) i)) (fun i => q (sel (fl p q o m) i)) k v)
    (h2 : tlab (fun i => p (sel (fl p q o m) i)) (fun i => q (sel (fl p q o m) i)) (k + 1) u = tlab (fun i => p (sel (fl p q o m) i)) (fun i => q (sel (fl p q o m) i)) (k + 1) v) :
    tlab (fun i => p (sel (fl p q o' m) i)) (fun i => q (sel (fl p q o' m) i)) (fl p q o' m).length u = tlab (fun i => p (sel (fl p q o' m) i)) (fun i => q (sel (fl p q o' m) i)) (fl p q o' m).length v := by
  have a := (mm_theta hb hk h1 h2 _).2 (Int.le_refl _)
  obtain ⟨k', g0, g1, g2, g3⟩ := fl_theta (p := p) (q := q) hb' (x (sel (fl p q o m) k))
  rw [← g3] at a
  exact tlab_mono' g0 a
theorem same_len {p q o o' : Nat → Nat} {m n : Nat} {x : Nat → Int} (hb : ByWeight m x o) (hb' : ByWeight m x o') (hpq : ∀ j, j < m → p j < n ∧ q j < n) : (fl p q o m).length = (fl p q o' m).length := by
  have a := all_count hb hpq
  have b := all_count hb' hpq
  omega
theorem same_height {p q o o' : Nat → Nat} {m n : Nat} {x : Nat → Int} (hb : ByWeight m x o) (hb' : ByWeight m x o') (hpq : ∀ j, j < m → p j < n ∧ q j < n) {i : Nat} (hi : i < (fl p q o m).length) : x (sel (fl p q o m) i) = x (sel (fl p q o' m) i) := by
  have main : ∀ {o o' : Nat → Nat}, ByWeight m x o → ByWeight m x o' → i < (fl p q o m).length → x (sel (fl p q o' m) i) ≤ x (sel (fl p q o m) i) := by
    intro o o' hb hb' hi
    obtain ⟨k, a0, a1, a2, a3⟩ := theta_count hb hpq (x (sel (fl p q o m) i))
    obtain ⟨k', b0, b1, b2, b3⟩ := theta_count hb' hpq (x (sel (fl p q o m) i))
    have : i < k := by
      by_cases e : i < k
      · exact e
      · have := a2 i (by omega) hi; omega
    exact b1 i (by omega)
  have e := same_len hb hb' hpq
  have a := main hb hb' hi
  have b := main hb' hb (by omega)
  omega
/-- The minimax distances of a connected graph, as the matrix of a tree of merges. -/
theorem dist_of {p q o : Nat → Nat} {m n : Nat} {x : Nat → Int} (hb : ByWeight m x o) (hpq : ∀ j, j < m → p j < n ∧ q j < n) {D : Nat → Nat → Int} (hs : ∀ u v, u < n → v < n → D u v = D v u)
    (hj : ∀ u v, u < n → v < u → ∃ k, k < (fl p q o m).length ∧ tlab (fun i => p (sel (fl p q o m) i)) (fun i => q (sel (fl p q o m) i)) k u ≠ tlab (fun i => p (sel (fl p q o m) i)) (fun i => q (sel (fl p q o m) i)) k v ∧
      tlab (fun i => p (sel (fl p q o m) i)) (fun i => q (sel (fl p q o m) i)) (k + 1) u = tlab (fun i => p (sel (fl p q o m) i)) (fun i => q (sel (fl p q o m) i)) (k + 1) v ∧ D u v = x (sel (fl p q o m) k)) :
    Dist n (fl p q o m).length (fun i => p (sel (fl p q o m) i)) (fun i => q (sel (fl p q o m) i)) (fun i => x (sel (fl p q o m) i)) D := by
  refine ⟨fl_mrg fun i hi => hpq _ (hb.lt hi), fun i j hij hj => fl_sorted hb hij hj, hs, fun u v hu hv hne => ?_⟩
  rcases Nat.lt_or_gt_of_ne hne with h | h
  · obtain ⟨k, h1, h2, h3, h4⟩ := hj v u hv h
    exact ⟨k, h1, fun e => h2 e.symm, h3.symm, by rw [hs u v hu hv, h4]⟩
  · exact hj u v hu h
theorem con_len {n c : Nat} {p q : Nat → Nat} {h : Nat → Int} {D : Nat → Nat → Int} (hD : Dist n c p q h D) (hn : 1 ≤ n) : c + 1 = n := by
  have hr := hD.mrg.roots (Nat.le_refl c)
  have hl := hD.mrg.labs (Nat.le_refl c)
  have h1 : roots n (tlab p q c) = 1 := by
    have hall : ∀ u, u < n → tlab p q c u = 0 := fun u hu => by
      have e : tlab p q c u = tlab p q c 0 := by
        by_cases e : u = 0
        · rw [e]
        · obtain ⟨k, k1, k2, k3, k4⟩ := hD.joined u 0 hu hn e
          exact tlab_mono' (by omega) k3
      have := (hl 0 hn).1
      omega
    have e2 : ∀ k, 1 ≤ k → k ≤ n → roots k (tlab p q c) = 1 := by
      intro k
      induction k with
      | zero => intro h1; omega
      | succ k ih =>
        intro h1 h2
        unfold roots at ih ⊢
        rw [many_succ, hall k (by omega)]
        by_cases e : k = 0
        · subst e; rfl
        · rw [ih (by omega) (by omega)]
          have : (decide (0 = k)) = false := by simp; omega
          simp
          omega
    exact e2 n hn (Nat.le_refl _)
  omega

end Go.Proofs.YtipgbbhgmoehfaaDoor

/-
  The matrix of minimax distances (plain).
-/
namespace Go.Proofs.YtipgbbhgmoehfaaDoor
set_option linter.unusedSimpArgs false
set_option linter.unusedVariables false

theorem mat_inj {n a b c d : Nat} (hb : b < n) (hd : d < n) (h : a * n + b = c * n + d) : a = c ∧ b = d := by
  have key : ∀ {a b c d : Nat}, b < n → a * n + b = c * n + d → ¬ a < c := fun {a b c d} hb h hl => by
    have := Nat.mul_le_mul_right n (show a + 1 ≤ c by omega)
    rw [Nat.add_mul] at this
    omega
  rcases Nat.lt_trichotomy a c with hl | hl | hl
  · exact absurd hl (key hb h)
  · subst hl; exact ⟨rfl, by omega⟩
  · exact absurd hl (key hd h.symm)
theorem mat_lt {n a b : Nat} (ha : a < n) (hb : b < n) : a * n + b < n * n := by
  have := Nat.mul_le_mul_right n (show a + 1 ≤ n by omega)
  rw [Nat.add_mul] at this
  omega
theorem mat_split {n i : Nat} (hi : i < n * n) : i / n < n ∧ i % n < n ∧ i / n * n + i % n = i := by
  have hn : 0 < n := by
    cases n with
    | zero => omega
    | succ n => omega
  exact ⟨Nat.div_lt_of_lt_mul hi, Nat.mod_lt _ hn, Nat.div_add_mod' i n⟩
/-- The merge that joins u and v, among the first c. -/
def mmk (p q : Nat → Nat) (u v : Nat) : Nat → Nat
  | 0 => 0
  | c + 1 => if tlab p q c u = tlab p q c v then mmk p q u v c else c
theorem mmk_is {p q : Nat → Nat} {u v k : Nat} (h1 : tlab p q k u ≠ tlab p q k v) (h2 : tlab p q (k + 1) u = tlab p q (k + 1) v) : ∀ {c}, k < c → mmk p q u v c = k
  | 0, h => absurd h (Nat.not_lt_zero _)
  | c + 1, h => by
    show (if tlab p q c u = tlab p q c v then mmk p q u v c else c) = k
    by_cases e : c = k
    · subst e; exact if_neg h1
    · rw [if_pos (tlab_mono' (by omega) h2)]
      exact mmk_is h1 h2 (by omega)
theorem mmk_sym (p q : Nat → Nat) (u v : Nat) : ∀ c, mmk p q u v c = mmk p q v u c
  | 0 => rfl
  | c + 1 => by
    show (if _ then _ else _) = if tlab p q c v = tlab p q c u then mmk p q v u c else c
    rw [mmk_sym p q u v c]
    by_cases e : tlab p q c u = tlab p q c v
    · rw [if_pos e, if_pos e.symm]
    · rw [if_neg e, if_neg (fun h => e h.symm)]
/-- The minimax distance. -/
def mmD (p q : Nat → Nat) (h : Nat → Int) (c u v : Nat) : Int := if u = v then 0 else h (mmk p q u v c)
theorem mmD_sym (p q : Nat → Nat) (h : Nat → Int) (c u v : Nat) : mmD p q h c u v = mmD p q h c v u := by
  unfold mmD
  by_cases e : u = v
  · rw [if_pos e, if_pos e.symm]
  · rw [if_neg e, if_neg (Ne.symm e), mmk_sym]
theorem mmD_is {p q : Nat → Nat} {h : Nat → Int} {u v k c : Nat} (h1 : tlab p q k u ≠ tlab p q k v) (h2 : tlab p q (k + 1) u = tlab p q (k + 1) v) (hk : k < c) : mmD p q h c u v = h k := by
  unfold mmD
  rw [if_neg (fun e => h1 (by rw [e])), mmk_is h1 h2 hk]
/-- The matrix when the pairs before (U, V) are laid. -/
def gfill (n : Nat) (D : Nat → Nat → Int) (U V i : Nat) : Int := if (i / n < U ∧ i % n < U) ∨ (i / n = U ∧ i % n < V) ∨ (i % n = U ∧ i / n < V) then D (i / n) (i % n) else 0
theorem gfill_at {n : Nat} {D : Nat → Nat → Int} {U V a b : Nat} (hb : b < n) : gfill n D U V (a * n + b) = if (a < U ∧ b < U) ∨ (a = U ∧ b < V) ∨ (b = U ∧ a < V) then D a b else 0 := by
  have hn : 0 < n := by omega
  have e1 : (a * n + b) / n = a := by rw [Nat.mul_comm, Nat.mul_add_div hn, Nat.div_eq_of_lt hb]; omega
  have e2 : (a * n + b) % n = b := by rw [Nat.mul_comm, Nat.mul_add_mod, Nat.mod_eq_of_lt hb]
  unfold gfill
  rw [e1, e2]
theorem gfill_start (n : Nat) (D : Nat → Nat → Int) (i : Nat) : gfill n D 0 0 i = 0 := by
  unfold gfill
  generalize i / n = a
  generalize i % n = b
  rw [if_neg (by omega)]
theorem gfill_row {n : Nat} {D : Nat → Nat → Int} (h0 : ∀ u, D u u = 0) (U i : Nat) : gfill n D U U i = gfill n D (U + 1) 0 i := by
  unfold gfill
  generalize i / n = a
  generalize i % n = b
  by_cases e : a = U ∧ b = U
  · rw [if_neg (by omega), if_pos (by omega), e.1, e.2, h0]
  · by_cases h : (a < U ∧ b < U) ∨ (a = U ∧ b < U) ∨ (b = U ∧ a < U)
    · rw [if_pos h, if_pos (by omega)]
    · rw [if_neg h, if_neg (by omega)]
theorem gfill_end {n : Nat} {D : Nat → Nat → Int} {i : Nat} (hi : i < n * n) : gfill n D n 0 i = D (i / n) (i % n) := by
  obtain ⟨h1, h2, _⟩ := mat_split hi
  unfold gfill
  rw [if_pos (.inl ⟨h1, h2⟩)]
theorem gfill_next {n : Nat} {D : Nat → Nat → Int} (hs : ∀ u v, D u v = D v u) {U V : Nat} (hU : U < n) (hV : V < U) {t : Int} (ht : D U V = t) {j : Nat} (hj : j < n * n) :
    (if j = V * n + U then t else if j = U * n + V then t else gfill n D U V j) = gfill n D U (V + 1) j := by
  obtain ⟨h1, h2, h3⟩ := mat_split hj
  obtain ⟨a, ha⟩ : ∃ a, j / n = a := ⟨_, rfl⟩
  obtain ⟨b, hb⟩ : ∃ b, j % n = b := ⟨_, rfl⟩
  rw [ha] at h1 h3
  rw [hb] at h2 h3
  subst h3
  rw [gfill_at h2, gfill_at h2]
  by_cases e1 : a * n + b = V * n + U
  · obtain ⟨rfl, rfl⟩ := mat_inj h2 hU e1
    rw [if_pos e1, if_pos (by omega), hs, ht]
  · rw [if_neg e1]
    by_cases e2 : a * n + b = U * n + V
    · obtain ⟨rfl, rfl⟩ := mat_inj h2 (by omega) e2
      rw [if_pos e2, if_pos (by omega), ht]
    · rw [if_neg e2]
      have n1 : ¬ (a = V ∧ b = U) := fun h => e1 (by rw [h.1, h.2])
      have n2 : ¬ (a = U ∧ b = V) := fun h => e2 (by rw [h.1, h.2])
      by_cases h : (a < U ∧ b < U) ∨ (a = U ∧ b < V) ∨ (b = U ∧ a < V)
      · rw [if_pos h, if_pos (by omega)]
      · rw [if_neg h, if_neg (by omega)]

end Go.Proofs.YtipgbbhgmoehfaaDoor
