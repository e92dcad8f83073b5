import Derived.Test.YtipgbbhgmoehfaaYTB
import Derived.Test.YtipgbbhgmoehfaaYTO
import Derived.Test.YtipgbbhgmoehfaaYLN
/-
  cluster.New.
-/
namespace Go.Proofs.Ytipgbbhgmoehfaa
open Go.RowKit
attribute [local go_sem] Oper.semAt_some
set_option linter.unusedSimpArgs false
set_option linter.unusedVariables false
set_option linter.unusedSectionVars false

theorem TIn.up {W : World} {n c : Nat} {p q : Nat → Nat} {h : Nat → Int} {s L R P H Z : Nat} (t : TIn W n c p q h s L R P H Z) : Up (tpar n p q c) s := fun x hx => by
  have := t.hs
  rcases t.ok.mrg.par_up x with e | ⟨j, hj, e, h1⟩
  · exact .inl e
  · exact .inr ⟨n + j, e, h1, by omega⟩
def viewCells (TT n s L R P H Z LS : Nat) : Array Value := #[.pointer (some ⟨TT, 0, none⟩), .int .i64 n, .slice (some ⟨L, 0, none⟩) s s, .slice (some ⟨R, 0, none⟩) s s, .slice (some ⟨P, 0, none⟩) s s, .slice (some ⟨H, 0, none⟩) s s, .slice (some ⟨Z, 0, none⟩) s s, .slice (some ⟨LS, 0, none⟩) s s]
/-- A view in memory. -/
structure ViewIn (W : World) (VB TT LS n c : Nat) (p q : Nat → Nat) (h : Nat → Int) (s L R P H Z : Nat) : Prop where
  head : W.heap[VB]? = some (.cells (viewCells TT n s L R P H Z LS) 109 (0, 0))
  tin : TIn W n c p q h s L R P H Z
theorem ViewIn.only {W W' : World} {VB TT LS n c : Nat} {p q : Nat → Nat} {h : Nat → Int} {s L R P H Z : Nat} (v : ViewIn W VB TT LS n c p q h s L R P H Z) (hO : Only [] W W') : ViewIn W' VB TT LS n c p q h s L R P H Z :=
  ⟨(hO.block _ (heap_lt v.head) (by simp)).trans v.head, v.tin.only hO⟩
/-- Either the code of what is wrong, or the view of the graph. -/
def CNewPost (n : Int) (m : Nat) (u v x : Nat → Int) (k : Int) (w : World) (e : Ending) (w' : World) : Prop := Only [] w w' ∧ ((k ≠ 0 ∧ e = .returned (.tuple #[.pointer none, .int .i64 k])) ∨
  (k = 0 ∧ ∃ (n' : Nat) (o : Nat → Nat) (c s L R P H Z VB TT LS : Nat), n = (n' : Int) ∧ ByWeight m x o ∧ (fl (nat u) (nat v) o m).length = c ∧ (∀ j, j < m → nat u j < n' ∧ nat v j < n') ∧ e = .returned (.tuple #[.pointer (some ⟨VB, 0, none⟩), .int .i64 0]) ∧
    ViewIn w' VB TT LS n' c (fun i => nat u (sel (fl (nat u) (nat v) o m) i)) (fun i => nat v (sel (fl (nat u) (nat v) o m) i)) (fun i => x (sel (fl (nat u) (nat v) o m) i)) s L R P H Z))
set_option maxRecDepth 100000 in
set_option maxHeartbeats 4000000 in
theorem CNew_any (n : Int) (A : Option Addr) (m cp : Nat) (u v x : Nat → Int) (w : World) (h : EdgesIn w A m u v x) (k : Int) (hk : GCode n m u v k) : Calls Try.prog 16 #[.int .i64 n, .slice A m cp] w (CNewPost n m u v x k w) := by
  have CB := Lib.hid (Build_any n A m cp u v x w h k hk)
  clear h hk
  go_enter Try.func16, Try.ntmps16
  go_wp2_with fail
  refine CB.out.mono ?_
  rintro e w1 ⟨hO1, ⟨h0, rfl⟩ | ⟨rfl, n, o, c, s, L, R, P, H, Z, rfl, hb, hc, hlt, rfl, hI⟩⟩
  · have q1 : (k != 0) = true := by simpa using h0
    have HO1 := Lib.hid hO1
    unfold zeroTree
    clear hO1 CB
    go_wp2_with fail
    go_ret2
    exact ⟨HO1.out.trans ((Only.refl [] w1).alloc _), .inl ⟨h0, rfl⟩⟩
  · have HO1 := Lib.hid hO1
    have HB := Lib.hid (And.intro hb (And.intro hc hlt))
    obtain ⟨p, hp⟩ : ∃ p : Nat → Nat, (fun i => nat u (sel (fl (nat u) (nat v) o m) i)) = p := ⟨_, rfl⟩
    obtain ⟨q, hq⟩ : ∃ q : Nat → Nat, (fun i => nat v (sel (fl (nat u) (nat v) o m) i)) = q := ⟨_, rfl⟩
    obtain ⟨h, hh⟩ : ∃ h : Nat → Int, (fun i => x (sel (fl (nat u) (nat v) o m) i)) = h := ⟨_, rfl⟩
    rw [hp, hq, hh] at hI
    have HPQ := Lib.hid (And.intro hp (And.intro hq hh))
    obtain ⟨b1, b2, b3, b4⟩ := hI.bounds
    have CL := Lib.hid (fun W (hO : Only [] w1 W) => Lift_any P s (tpar n p q c) (hI.only hO).rP hI.up (by omega))
    have CE := Lib.hid (fun W (hO : Only [] w1 W) => Least_any (hI.only hO))
    have HI := Lib.hid hI
    unfold treeV treeCells
    unfold treeV treeCells at CE
    clear CB hO1 hb hc hlt hp hq hh hI
    go_upto_region 4 with (fail)
    obtain ⟨w2, hw2⟩ : ∃ w2, w1.alloc (.cells (treeCells n s L R P H Z) 50) = w2 := ⟨_, rfl⟩
    have hT : w2.heap[w1.heap.size]? = some (.cells (treeCells n s L R P H Z) 50 (0, 0)) := hw2 ▸ heap_alloc_new w1 _
    have hO2 : Only [] w1 w2 := hw2 ▸ (Only.refl [] w1).alloc _
    unfold treeCells at hw2
    rw [hw2]
    obtain ⟨TB, hTB⟩ : ∃ TB, w1.heap.size = TB := ⟨_, rfl⟩
    rw [hTB] at hT ⊢
    have f3 := cell_of_heap (i := 3) hT rfl
    replace f3 : w2.cell? ⟨TB, 3, none⟩ = some (.slice (some ⟨P, 0, none⟩) s s) := f3
    have CL2 := Lib.hid (CL.out w2 hO2)
    have HT := Lib.hid hT
    have HO2 := Lib.hid hO2
    clear hw2 hT hO2 CL
    go_wp2_with fail
    refine CL2.out.mono ?_
    rintro e w3 ⟨TT, DP, J, rfl, _, hTT, hO3⟩
    have hO3' := HO2.out.trans hO3
    have HO3 := Lib.hid hO3'
    have HI3 := Lib.hid (HI.out.only hO3')
    have hT3 := (hO3.block _ (heap_lt HT.out) (by simp)).trans HT.out
    have HT3 := Lib.hid (show ∀ W, Only [] w3 W → W.cell? ⟨TB, 0, none⟩ = some (.int .i64 n) ∧ W.cell? ⟨TB, 1, none⟩ = some (.slice (some ⟨L, 0, none⟩) s s) ∧ W.cell? ⟨TB, 2, none⟩ = some (.slice (some ⟨R, 0, none⟩) s s) ∧ W.cell? ⟨TB, 3, none⟩ = some (.slice (some ⟨P, 0, none⟩) s s) ∧
      W.cell? ⟨TB, 4, none⟩ = some (.slice (some ⟨H, 0, none⟩) s s) ∧ W.cell? ⟨TB, 5, none⟩ = some (.slice (some ⟨Z, 0, none⟩) s s) from fun W hO => by
        have h := (hO.block _ (heap_lt hT3) (by simp)).trans hT3
        exact ⟨cell_of_heap (i := 0) h rfl, cell_of_heap (i := 1) h rfl, cell_of_heap (i := 2) h rfl, cell_of_heap (i := 3) h rfl, cell_of_heap (i := 4) h rfl, cell_of_heap (i := 5) h rfl⟩)
    clear hO3 hO3' hT3 f3 CL2 HT HO2
    obtain ⟨f0, f1, f2, f3, f4, f5⟩ := HT3.out w3 (Only.refl _ _)
    go_upto_region 7 with (fail)
    have hS0 := HT3.out w3 (Only.refl _ _)
    go_region_held3 (fun W => W.cell? ⟨TB, 0, none⟩ = some (.int .i64 n) ∧ W.cell? ⟨TB, 1, none⟩ = some (.slice (some ⟨L, 0, none⟩) s s) ∧ W.cell? ⟨TB, 2, none⟩ = some (.slice (some ⟨R, 0, none⟩) s s) ∧ W.cell? ⟨TB, 3, none⟩ = some (.slice (some ⟨P, 0, none⟩) s s) ∧
      W.cell? ⟨TB, 4, none⟩ = some (.slice (some ⟨H, 0, none⟩) s s) ∧ W.cell? ⟨TB, 5, none⟩ = some (.slice (some ⟨Z, 0, none⟩) s s)) (first | exact hS0 | exact hS0.1 | exact hS0.2.1 | exact hS0.2.2.1 | exact hS0.2.2.2.1 | exact hS0.2.2.2.2.1 | exact hS0.2.2.2.2.2 | exact hS7 | exact hS7.1 | exact hS7.2.1 | exact hS7.2.2.1 | exact hS7.2.2.2.1 | exact hS7.2.2.2.2.1 | exact hS7.2.2.2.2.2 | exact ⟨Lib.cell?_alloc_some _ hS7.1, Lib.cell?_alloc_some _ hS7.2.1, Lib.cell?_alloc_some _ hS7.2.2.1, Lib.cell?_alloc_some _ hS7.2.2.2.1, Lib.cell?_alloc_some _ hS7.2.2.2.2.1, Lib.cell?_alloc_some _ hS7.2.2.2.2.2⟩ | exact Lib.cell?_alloc_some _ hS7.1 | exact Lib.cell?_alloc_some _ hS7.2.1 | exact Lib.cell?_alloc_some _ hS7.2.2.1 | exact Lib.cell?_alloc_some _ hS7.2.2.2.1 | exact Lib.cell?_alloc_some _ hS7.2.2.2.2.1 | exact Lib.cell?_alloc_some _ hS7.2.2.2.2.2)
      ((go_at_call 46; refine (CE.out _ ?_).mono ?_; (first | exact HO3.out | exact HO3.out.drewN 1); rintro e wC ⟨LS, rfl, hR, _, hOC⟩; have HOC := Lib.hid (((Only.refl [] w3).drewN 1).trans hOC); have HR := Lib.hid hR; have hS7 := HT3.out wC HOC.out; clear hOC hR))
    have HI4 := Lib.hid ((HI3.out.only HOC.out).only ((Only.refl [] wC).alloc (.cells (viewCells TT n s L R P H Z LS) 109)))
    have hV := heap_alloc_new wC (.cells (viewCells TT n s L R P H Z LS) 109)
    have HV := Lib.hid hV
    have HO4 := Lib.hid (((HO1.out.trans HO3.out).trans HOC.out).trans ((Only.refl [] wC).alloc (.cells (viewCells TT n s L R P H Z LS) 109)))
    clear hV hS0 f0 f1 f2 f3 f4 f5 hS7
    go_wp2_with fail
    go_ret2
    refine ⟨HO4.out, .inr ⟨rfl, n, o, c, s, L, R, P, H, Z, wC.heap.size, TT, LS, rfl, HB.out.1, HB.out.2.1, HB.out.2.2, rfl, ?_⟩⟩
    rw [HPQ.out.1, HPQ.out.2.1, HPQ.out.2.2]
    exact ⟨HV.out, HI4.out⟩

end Go.Proofs.Ytipgbbhgmoehfaa
