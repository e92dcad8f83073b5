import Derived.Test.YtipgbbhgmoehfaaDoorYLM
/-
  minimax: has, meeting, Minimax.
-/
namespace Go.Proofs.YtipgbbhgmoehfaaDoor
open Go.RowKit Go.Shelf
attribute [local go_sem] Oper.semAt_some
set_option linter.unusedSimpArgs false
set_option linter.unusedVariables false
set_option linter.unusedSectionVars false

/-- A finder of the tree of merges p, q, h. -/
structure FinIn (W : World) (F TR TB DP n c : Nat) (p q : Nat → Nat) (h : Nat → Int) (s L R P H Z : Nat) (J : Nat → Nat) (vf va : Value) : Prop where
  fin : W.heap[F]? = some (.cells #[.pointer (some ⟨TR, 0, none⟩)] 63 (0, 0))
  tree : W.heap[TR]? = some (.cells #[.pointer (some ⟨TB, 0, none⟩), .int .i64 n, .slice (some ⟨L, 0, none⟩) s s, .slice (some ⟨R, 0, none⟩) s s, .slice (some ⟨P, 0, none⟩) s s, .slice (some ⟨H, 0, none⟩) s s, .slice (some ⟨Z, 0, none⟩) s s, vf, va] 58 (0, 0))
  tab : Table W TB DP s J 13 (tpar n p q c)
  tin : TIn W n c p q h s L R P H Z
  bru : Tab W
theorem FinIn.only {W W' : World} {F TR TB DP n c : Nat} {p q : Nat → Nat} {h : Nat → Int} {s L R P H Z : Nat} {J : Nat → Nat} {vf va : Value} (f : FinIn W F TR TB DP n c p q h s L R P H Z J vf va) (hO : Only [] W W') : FinIn W' F TR TB DP n c p q h s L R P H Z J vf va :=
  ⟨(hO.block _ (heap_lt f.fin) (by simp)).trans f.fin, (hO.block _ (heap_lt f.tree) (by simp)).trans f.tree, f.tab.only hO (by simp) (by simp) (fun _ _ => by simp), f.tin.only hO, f.bru.only hO (by simp)⟩
def FinAt (W : World) (F n c : Nat) (p q : Nat → Nat) (h : Nat → Int) : Prop := ∃ TR TB DP s L R P H Z J vf va, FinIn W F TR TB DP n c p q h s L R P H Z J vf va
theorem FinAt.only {W W' : World} {F n c : Nat} {p q : Nat → Nat} {h : Nat → Int} (f : FinAt W F n c p q h) (hO : Only [] W W') : FinAt W' F n c p q h := by
  obtain ⟨TR, TB, DP, s, L, R, P, H, Z, J, vf, va, f⟩ := f
  exact ⟨TR, TB, DP, s, L, R, P, H, Z, J, vf, va, f.only hO⟩
section
variable {W : World} {F TR TB DP n c : Nat} {p q : Nat → Nat} {h : Nat → Int} {s L R P H Z : Nat} {J : Nat → Nat} {vf va : Value} (f : FinIn W F TR TB DP n c p q h s L R P H Z J vf va)
include f
theorem FinIn.cells : W.cell? ⟨F, 0, none⟩ = some (.pointer (some ⟨TR, 0, none⟩)) ∧ W.cell? ⟨TR, 0, none⟩ = some (.pointer (some ⟨TB, 0, none⟩)) ∧ W.cell? ⟨TR, 1, none⟩ = some (.int .i64 n) ∧ W.cell? ⟨TR, 5, none⟩ = some (.slice (some ⟨H, 0, none⟩) s s) :=
  ⟨cell_of_heap (i := 0) f.fin rfl, cell_of_heap (i := 0) f.tree rfl, cell_of_heap (i := 1) f.tree rfl, cell_of_heap (i := 5) f.tree rfl⟩
set_option maxRecDepth 100000 in
theorem Mhas_any (v : Nat) (hv : v < n) : Calls Tryd.prog 20 #[.pointer (some ⟨F, 0, none⟩), .int .i64 v] W fun e w' => e = .returned (.bool true) ∧ w' = W := by
  obtain ⟨c0, c1, c2, c3⟩ := f.cells
  have q1 : (v : Int) < (n : Int) := by omega
  have q2 : (0 : Int) ≤ (v : Int) := by omega
  clear f
  go_enter Tryd.func20, Tryd.ntmps20
  go_wp2_with fail
  go_ret
  exact ⟨rfl, rfl⟩
set_option maxRecDepth 100000 in
set_option maxHeartbeats 2000000 in
theorem meeting_any (u v : Nat) (hu : u < n) (hv : v < n) (hne : u ≠ v) : Calls Tryd.prog 21 #[.pointer (some ⟨F, 0, none⟩), .int .i64 u, .int .i64 v] W fun e w' => Only [] W w' ∧
    ((tlab p q c u ≠ tlab p q c v ∧ e = .returned (.tuple #[.int .i64 0, .bool false])) ∨ ∃ k, k < c ∧ tlab p q k u ≠ tlab p q k v ∧ tlab p q (k + 1) u = tlab p q (k + 1) v ∧ e = .returned (.tuple #[.int .i64 ((n + k : Nat) : Int), .bool true])) := by
  obtain ⟨c0, c1, c2, c3⟩ := f.cells
  obtain ⟨b1, b2, b3, b4⟩ := f.tin.bounds
  have hm := f.tin.ok.mrg
  have hs := f.tin.hs
  have hup : Up (tpar n p q c) s := by rw [← hs]; exact hm.up
  have CH := Lib.hid (Mhas_any f u hu)
  have CH2 := Lib.hid (Mhas_any f v hv)
  have CC := Lib.hid (Common_any f.tab hup (by omega) f.bru u v (by omega) (by omega) (fun k => hm.leaf hu hv hne) (fun k => hm.leaf hv hu (Ne.symm hne)))
  have q1 : ((u : Int) == (v : Int)) = false := by simp; omega
  have q2 : ¬ (u : Int) = (v : Int) := by omega
  have HN := Lib.hid (fun a b (hn : Near (tpar n p q c) s u v 0 a b) => hm.meet hm.up hu hv (hs ▸ hn))
  clear f hm hs hup
  go_enter Tryd.func21, Tryd.ntmps21
  go_wp2_with fail
  refine CH.out.mono ?_
  rintro e w' ⟨rfl, rfl⟩
  go_wp2_with fail
  refine CH2.out.mono ?_
  rintro e w' ⟨rfl, rfl⟩
  go_wp2_with fail
  refine CC.out.mono ?_
  rintro e w2 ⟨a, b, hnr, hO, rfl⟩
  have HO := Lib.hid hO
  have HR := Lib.hid (HN.out a b hnr)
  clear hO CC CH CH2 HN hnr
  obtain ⟨x, hx⟩ : ∃ x, (if tpar n p q c a < 0 then 0 else tpar n p q c a) = x := ⟨_, rfl⟩
  obtain ⟨y, hy⟩ : ∃ y, (!decide (tpar n p q c a < 0)) = y := ⟨_, rfl⟩
  rw [hx, hy]
  have HX := Lib.hid (And.intro hx hy)
  clear hx hy
  go_wp2_with fail
  go_ret2
  refine ⟨HO.out, ?_⟩
  obtain ⟨hx, hy⟩ := HX.out
  rcases HR.out with ⟨e, h2⟩ | ⟨k, hk, e, h1, h2⟩
  · rw [e] at hx hy
    exact .inl ⟨h2, by rw [← hx, ← hy]; rfl⟩
  · rw [e, if_neg (by omega)] at hx
    rw [e, decide_eq_false (by omega)] at hy
    exact .inr ⟨k, hk, h1, h2, by rw [← hx, ← hy]; rfl⟩
end
set_option maxRecDepth 100000 in
set_option maxHeartbeats 2000000 in
theorem Minimax_any {W : World} {F n c : Nat} {p q : Nat → Nat} {h : Nat → Int} (f : FinAt W F n c p q h) (u v : Nat) (hu : u < n) (hv : v < n) :
    Calls Tryd.prog 9 #[.pointer (some ⟨F, 0, none⟩), .int .i64 u, .int .i64 v] W fun e w' => Only [] W w' ∧
      ((u = v ∧ e = .returned (.tuple #[.int .i64 (-9223372036854775808), .bool true])) ∨ (u ≠ v ∧ tlab p q c u ≠ tlab p q c v ∧ e = .returned (.tuple #[.int .i64 0, .bool false])) ∨
        (u ≠ v ∧ ∃ k, k < c ∧ tlab p q k u ≠ tlab p q k v ∧ tlab p q (k + 1) u = tlab p q (k + 1) v ∧ e = .returned (.tuple #[.int .i64 (h k), .bool true]))) := by
  obtain ⟨TR, TB, DP, s, L, R, P, H, Z, J, vf, va, f⟩ := f
  have CH := Lib.hid (Mhas_any f u hu)
  by_cases e : u = v
  · subst e
    clear f
    go_enter Tryd.func9, Tryd.ntmps9
    go_wp2_with fail
    refine CH.out.mono ?_
    rintro e w' ⟨rfl, rfl⟩
    go_wp2_with fail
    go_ret2
    first
    | exact ⟨Only.refl _ _, .inl ⟨rfl, rfl⟩⟩
    | exact ⟨Only.refl _ _, .inl rfl⟩
    | exact ⟨Only.refl _ _, .inl ⟨trivial, rfl⟩⟩
    | exact ⟨Only.refl _ _, rfl⟩
  · have CM := Lib.hid (meeting_any f u v hu hv e)
    have q1 : ((u : Int) == (v : Int)) = false := by simp; omega
    have q2 : ¬ (u : Int) = (v : Int) := by omega
    have HF := Lib.hid (fun W' (hO : Only [] W W') => (f.only hO).cells)
    have HH := Lib.hid (fun W' (hO : Only [] W W') => (f.only hO).tin.rH)
    have hs := f.tin.hs
    have HE := Lib.hid e
    clear f e
    go_enter Tryd.func9, Tryd.ntmps9
    go_wp2_with fail
    refine CH.out.mono ?_
    rintro e w' ⟨rfl, rfl⟩
    go_wp2_with fail
    refine CM.out.mono ?_
    rintro e w2 ⟨hO, ⟨h1, rfl⟩ | ⟨k, hk, h1, h2, rfl⟩⟩
    · have HO := Lib.hid hO
      have H1 := Lib.hid h1
      clear hO CM CH HF HH h1
      go_wp2_with fail
      go_ret2
      exact ⟨HO.out, .inr (.inl ⟨HE.out, H1.out, rfl⟩)⟩
    · have HO := Lib.hid hO
      have H1 := Lib.hid (And.intro hk (And.intro h1 h2))
      obtain ⟨c0, c1, c2, c3⟩ := HF.out _ hO
      have d := (HH.out _ hO).cell (show n + k < s by omega)
      rw [show thei n h c (n + k) = h k by unfold thei; rw [if_pos (by omega), Nat.add_sub_cancel_left]] at d
      obtain ⟨x, hx⟩ : ∃ x, h k = x := ⟨_, rfl⟩
      rw [hx] at d
      have HX := Lib.hid hx
      obtain ⟨z, hz⟩ : ∃ z, n + k = z := ⟨_, rfl⟩
      have hzs : z < s := by omega
      have hz1 : (z : Int) < (s : Int) := by omega
      rw [hz] at d ⊢
      clear hO CM CH HF HH h1 h2 hx hz hk hs
      go_wp2_with fail
      go_ret2
      exact ⟨HO.out, .inr (.inr ⟨HE.out, k, H1.out.1, H1.out.2.1, H1.out.2.2, by rw [HX.out]; rfl⟩)⟩

end Go.Proofs.YtipgbbhgmoehfaaDoor
