import Derived.Test.YtipgbbhgmoehfaaDoorYTU
import Derived.Test.YtipgbbhgmoehfaaDoorZ8
/-
  Rows of a tree in the making.
-/
namespace Go.Proofs.YtipgbbhgmoehfaaDoor
open Go.RowKit
attribute [local go_sem] Oper.semAt_some
set_option linter.unusedSimpArgs false
set_option linter.unusedVariables false
set_option linter.unusedSectionVars false

/-- A row of whole numbers, of this type. -/
def RowZ (w : World) (t : TypeId) (g n : Nat) (f : Nat → Int) : Prop := RowGe w g t n (fun i => .int .i64 (f i))
theorem RowZ.heap {w : World} {t : TypeId} {g n : Nat} {f : Nat → Int} (h : RowZ w t g n f) : ∃ cs, w.heap[g]? = some (.cells cs t (0, 0)) := let ⟨c, hc, _⟩ := h; ⟨c, hc⟩
theorem RowZ.lt {w : World} {t : TypeId} {g n : Nat} {f : Nat → Int} (h : RowZ w t g n f) : g < w.heap.size := let ⟨_, hc⟩ := h.heap; heap_lt hc
theorem RowZ.cell {w : World} {t : TypeId} {g n : Nat} {f : Nat → Int} (h : RowZ w t g n f) {i : Nat} (hi : i < n) : w.cell? ⟨g, i, none⟩ = some (.int .i64 (f i)) := by
  obtain ⟨c, hc, r⟩ := h
  exact cell_of_heap hc (r i hi)
theorem RowZ.frozen {w : World} {t : TypeId} {g n : Nat} {f : Nat → Int} (h : RowZ w t g n f) (i : Nat) : w.frozen? ⟨g, i, none⟩ = false := by
  obtain ⟨c, hc, r⟩ := h
  exact frozen_of_heap hc
theorem RowZ.set {w : World} {t : TypeId} {g n : Nat} {f : Nat → Int} (h : RowZ w t g n f) (i : Nat) (x : Int) : RowZ (w.setCell ⟨g, i, none⟩ (.int .i64 x)) t g n (fun j => if j = i then x else f j) := by
  refine (RowGe.set h i (.int .i64 x)).congr fun j hj => ?_
  dsimp only
  split <;> rfl
theorem RowZ.same {w w' : World} {t : TypeId} {g n : Nat} {f : Nat → Int} (h : RowZ w t g n f) (hk : w'.heap[g]? = w.heap[g]?) : RowZ w' t g n f := by
  obtain ⟨c, hc, r⟩ := h
  exact ⟨c, hk.trans hc, r⟩
theorem RowZ.only {w w' : World} {t : TypeId} {g n : Nat} {f : Nat → Int} {gs : List Nat} (h : RowZ w t g n f) (ho : Only gs w w') (hg : g ∉ gs) : RowZ w' t g n f := h.same (ho.block g h.lt hg)
theorem RowZ.congr {w : World} {t : TypeId} {g n : Nat} {f f' : Nat → Int} (h : RowZ w t g n f) (e : ∀ i, i < n → f i = f' i) : RowZ w t g n f' := RowGe.congr h fun i hi => by rw [e i hi]
theorem RowZ.other {w : World} {t : TypeId} {g n g2 i : Nat} {f : Nat → Int} (h : RowZ w t g n f) (hg : g ≠ g2) (v : Value) : RowZ (w.setCell ⟨g2, i, none⟩ v) t g n f := h.same (heap_setCell_other w ⟨g2, i, none⟩ g v hg)
theorem Row2.other {w : World} {g n g2 i : Nat} {f s : Nat → Nat} (h : Row2 w g n f s) (hg : g ≠ g2) (v : Value) : Row2 (w.setCell ⟨g2, i, none⟩ v) g n f s := h.same (heap_setCell_other w ⟨g2, i, none⟩ g v hg)
theorem made_rowZ {w : World} {t : TypeId} {g n : Nat} (h : w.heap[g]? = some (.cells (madeCells #[.int .i64 0] n) t (0, 0))) : RowZ w t g n (fun _ => 0) := by
  obtain ⟨c, hc, r⟩ := World.rowIs_made w (.int .i64 0) n t
  rw [heap_alloc_new] at hc
  cases hc
  exact ⟨_, h, r.2⟩
theorem infoPr : (Tryd.prog.info? 66).map (fun i => (i.zero, i.size, i.bytes)) = some (some (.agg #[.int .i64 0, .int .i64 0]), 2, 16) := by kernel_rfl
theorem mk_prs (n : Nat) (hn : n ≤ 1000000) (w : World) : (Instr.makeSlice 65 (.int .i64 (n : Int)) (.int .i64 (n : Int))).run Tryd.prog w = .ok (.slice (some ⟨w.heap.size, 0, none⟩) n n) (w.alloc (.cells (madeCells #[.int .i64 0, .int .i64 0] (n * 2)) 66)) := by
  obtain ⟨i0, hi, hz0, hz1, hz2⟩ := info_parts infoPr
  have hr := run_make (P := Tryd.prog) w 65 66 i0 _ Tryd.underlying65 hi hz0 .i64 .i64 n n (by omega) (Int.le_refl _) (by rw [hz2]; omega) (by omega)
  simp only [Int.toNat_natCast, hz1] at hr
  exact hr
theorem made_row2 {w : World} {g n : Nat} (h : w.heap[g]? = some (.cells (madeCells #[.int .i64 0, .int .i64 0] (n * 2)) 66 (0, 0))) : Row2 w g n (fun _ => 0) (fun _ => 0) := by
  refine ⟨_, h, fun i hi => ?_⟩
  have e : (if i % 2 = 0 then (fun _ : Nat => 0) (i / 2) else (fun _ : Nat => 0) (i / 2) : Nat) = 0 := by split <;> rfl
  dsimp only at e ⊢
  rw [e]
  have hm : i % 2 = 0 ∨ i % 2 = 1 := by omega
  have hi' : i < n * 2 := by omega
  rcases hm with hm | hm <;> simp [madeCells, hi', hm]

/-- The tree's cells. -/
def treeCells (n s L R P H Z : Nat) : Array Value := #[.int .i64 n, .slice (some ⟨L, 0, none⟩) s s, .slice (some ⟨R, 0, none⟩) s s, .slice (some ⟨P, 0, none⟩) s s, .slice (some ⟨H, 0, none⟩) s s, .slice (some ⟨Z, 0, none⟩) s s]

/-- The blocks that Build makes, by the operation that makes each. -/
def tObj (s : Nat) : Nat → Obj := fun i => if i = 12 then .cells #[.int .i64 0, .slice none 0 0, .slice none 0 0, .slice none 0 0, .slice none 0 0, .slice none 0 0] 33 else if i = 8 then .cells (madeCells #[.int .i64 0] s) 2 else .cells (madeCells #[.int .i64 0] s) 3
/-- The blocks of a tree are apart, and not older than a world. -/
structure Apart (w : World) (Tb L R P H Z : Nat) : Prop where
  lr : L ≠ R
  lp : L ≠ P
  lh : L ≠ H
  lz : L ≠ Z
  rp : R ≠ P
  rh : R ≠ H
  rz : R ≠ Z
  ph : P ≠ H
  pz : P ≠ Z
  hz : H ≠ Z
  tl : Tb ≠ L
  tr : Tb ≠ R
  tp : Tb ≠ P
  th : Tb ≠ H
  tz : Tb ≠ Z
  ge : w.heap.size ≤ L ∧ w.heap.size ≤ R ∧ w.heap.size ≤ P ∧ w.heap.size ≤ H ∧ w.heap.size ≤ Z ∧ w.heap.size ≤ Tb
structure StartT (w : World) (n s Tb L R P H Z : Nat) (wc : World) : Prop where
  head : wc.heap[Tb]? = some (.cells (treeCells n s L R P H Z) 33 (0, 0))
  rL : RowZ wc 3 L s (fun _ => 0)
  rR : RowZ wc 3 R s (fun _ => 0)
  rP : RowZ wc 3 P s (fun _ => 0)
  rH : RowZ wc 2 H s (fun _ => 0)
  rZ : RowZ wc 3 Z s (fun _ => 0)
  apart : Apart w Tb L R P H Z
  only : Only [] w wc
theorem start_one {w w2 : World} {n s : Nat} {ad : Nat → Nat} (h : MadeAll w (tObj s) [2, 4, 6, 8, 10] ad w2) : StartT w n s w2.heap.size (ad 2) (ad 4) (ad 6) (ad 8) (ad 10) (w2.alloc (.cells (treeCells n s (ad 2) (ad 4) (ad 6) (ad 8) (ad 10)) 33)) := by
  have hr : ∀ i, i ∈ [2, 4, 6, 8, 10] → (w2.alloc (.cells (treeCells n s (ad 2) (ad 4) (ad 6) (ad 8) (ad 10)) 33)).heap[ad i]? = some (tObj s i) ∧ ad i < w2.heap.size := fun i hi => by
    have h1 := (h.row i hi).1
    have h2 : ad i < w2.heap.size := (Array.getElem?_eq_some_iff.1 h1).1
    exact ⟨(heap_alloc_old _ _ h2).trans h1, h2⟩
  have ha := fun i j (hi : i ∈ [2, 4, 6, 8, 10]) (hj : j ∈ [2, 4, 6, 8, 10]) hij => h.apart i j hi hj hij
  have hg := fun i (hi : i ∈ [2, 4, 6, 8, 10]) => (h.row i hi).2
  refine ⟨heap_alloc_new w2 _, made_rowZ (hr 2 (by decide)).1, made_rowZ (hr 4 (by decide)).1, made_rowZ (hr 6 (by decide)).1, made_rowZ (hr 8 (by decide)).1, made_rowZ (hr 10 (by decide)).1, ?_, h.only.alloc _⟩
  have l2 := (hr 2 (by decide)).2
  have l4 := (hr 4 (by decide)).2
  have l6 := (hr 6 (by decide)).2
  have l8 := (hr 8 (by decide)).2
  have l10 := (hr 10 (by decide)).2
  exact ⟨ha 2 4 (by decide) (by decide) (by decide), ha 2 6 (by decide) (by decide) (by decide), ha 2 8 (by decide) (by decide) (by decide), ha 2 10 (by decide) (by decide) (by decide), ha 4 6 (by decide) (by decide) (by decide), ha 4 8 (by decide) (by decide) (by decide), ha 4 10 (by decide) (by decide) (by decide),
    ha 6 8 (by decide) (by decide) (by decide), ha 6 10 (by decide) (by decide) (by decide), ha 8 10 (by decide) (by decide) (by decide), by omega, by omega, by omega, by omega, by omega, hg 2 (by decide), hg 4 (by decide), hg 6 (by decide), hg 8 (by decide), hg 10 (by decide), h.only.size⟩
theorem start_two {w w2 : World} {n s : Nat} {ad : Nat → Nat} (h : MadeAll w (tObj s) [2, 4, 6, 8, 10, 12] ad w2) : StartT w n s (ad 12) (ad 2) (ad 4) (ad 6) (ad 8) (ad 10)
    ((((((w2.setCell ⟨ad 12, 0, none⟩ (.int .i64 n)).setCell ⟨ad 12, 1, none⟩ (.slice (some ⟨ad 2, 0, none⟩) s s)).setCell ⟨ad 12, 2, none⟩ (.slice (some ⟨ad 4, 0, none⟩) s s)).setCell ⟨ad 12, 3, none⟩ (.slice (some ⟨ad 6, 0, none⟩) s s)).setCell ⟨ad 12, 4, none⟩ (.slice (some ⟨ad 8, 0, none⟩) s s)).setCell ⟨ad 12, 5, none⟩ (.slice (some ⟨ad 10, 0, none⟩) s s)) := by
  have ha := fun i j (hi : i ∈ [2, 4, 6, 8, 10, 12]) (hj : j ∈ [2, 4, 6, 8, 10, 12]) hij => h.apart i j hi hj hij
  have hg := fun i (hi : i ∈ [2, 4, 6, 8, 10, 12]) => (h.row i hi).2
  have hr : ∀ i, i ∈ [2, 4, 6, 8, 10] → ((((((w2.setCell ⟨ad 12, 0, none⟩ (.int .i64 n)).setCell ⟨ad 12, 1, none⟩ (.slice (some ⟨ad 2, 0, none⟩) s s)).setCell ⟨ad 12, 2, none⟩ (.slice (some ⟨ad 4, 0, none⟩) s s)).setCell ⟨ad 12, 3, none⟩ (.slice (some ⟨ad 6, 0, none⟩) s s)).setCell ⟨ad 12, 4, none⟩ (.slice (some ⟨ad 8, 0, none⟩) s s)).setCell ⟨ad 12, 5, none⟩ (.slice (some ⟨ad 10, 0, none⟩) s s)).heap[ad i]? = some (tObj s i) := fun i hi => by
    have hi6 : i ∈ [2, 4, 6, 8, 10, 12] := by simp at hi ⊢; omega
    have hne := ha i 12 hi6 (by decide) (by simp at hi; omega)
    exact head_other (head_other (head_other (head_other (head_other (head_other (h.row i hi6).1 hne _) hne _) hne _) hne _) hne _) hne _
  have k0 : w2.heap[ad 12]? = some (.cells #[.int .i64 0, .slice none 0 0, .slice none 0 0, .slice none 0 0, .slice none 0 0, .slice none 0 0] 33 (0, 0)) := (h.row 12 (by decide)).1
  have hO : Only [] w ((((((w2.setCell ⟨ad 12, 0, none⟩ (.int .i64 n)).setCell ⟨ad 12, 1, none⟩ (.slice (some ⟨ad 2, 0, none⟩) s s)).setCell ⟨ad 12, 2, none⟩ (.slice (some ⟨ad 4, 0, none⟩) s s)).setCell ⟨ad 12, 3, none⟩ (.slice (some ⟨ad 6, 0, none⟩) s s)).setCell ⟨ad 12, 4, none⟩ (.slice (some ⟨ad 8, 0, none⟩) s s)).setCell ⟨ad 12, 5, none⟩ (.slice (some ⟨ad 10, 0, none⟩) s s)) := by
    refine h.only.to ((((((((Only.refl [ad 12] w2).setCell (by simp) _).setCell (by simp) _).setCell (by simp) _).setCell (by simp) _).setCell (by simp) _).setCell (by simp) _)) fun i hi hlt => ?_
    have := hg 12 (by decide)
    simp at hi
    omega
  refine ⟨?_, made_rowZ (hr 2 (by decide)), made_rowZ (hr 4 (by decide)), made_rowZ (hr 6 (by decide)), made_rowZ (hr 8 (by decide)), made_rowZ (hr 10 (by decide)), ?_, hO⟩
  · have e0 := heap_setCell_same w2 (ad 12) 0 _ 33 (.int .i64 n) k0
    have e1 := heap_setCell_same _ (ad 12) 1 _ 33 (.slice (some ⟨ad 2, 0, none⟩) s s) e0
    have e2 := heap_setCell_same _ (ad 12) 2 _ 33 (.slice (some ⟨ad 4, 0, none⟩) s s) e1
    have e3 := heap_setCell_same _ (ad 12) 3 _ 33 (.slice (some ⟨ad 6, 0, none⟩) s s) e2
    have e4 := heap_setCell_same _ (ad 12) 4 _ 33 (.slice (some ⟨ad 8, 0, none⟩) s s) e3
    have e5 := heap_setCell_same _ (ad 12) 5 _ 33 (.slice (some ⟨ad 10, 0, none⟩) s s) e4
    exact e5
  · exact ⟨ha 2 4 (by decide) (by decide) (by decide), ha 2 6 (by decide) (by decide) (by decide), ha 2 8 (by decide) (by decide) (by decide), ha 2 10 (by decide) (by decide) (by decide), ha 4 6 (by decide) (by decide) (by decide), ha 4 8 (by decide) (by decide) (by decide), ha 4 10 (by decide) (by decide) (by decide),
      ha 6 8 (by decide) (by decide) (by decide), ha 6 10 (by decide) (by decide) (by decide), ha 8 10 (by decide) (by decide) (by decide), ha 12 2 (by decide) (by decide) (by decide), ha 12 4 (by decide) (by decide) (by decide), ha 12 6 (by decide) (by decide) (by decide), ha 12 8 (by decide) (by decide) (by decide), ha 12 10 (by decide) (by decide) (by decide),
      hg 2 (by decide), hg 4 (by decide), hg 6 (by decide), hg 8 (by decide), hg 10 (by decide), hg 12 (by decide)⟩

structure ApartG (w : World) (Tb L R P H Z G : Nat) : Prop extends Apart w Tb L R P H Z where
  gl : G ≠ L
  gr : G ≠ R
  gp : G ≠ P
  gh : G ≠ H
  gz : G ≠ Z
  gt : G ≠ Tb
  gg : w.heap.size ≤ G
/-- The tree in the making: what each row holds. -/
structure TT (w : World) (n s Tb L R P H Z G : Nat) (fL fR fP fH fZ : Nat → Int) (up tp : Nat → Nat) (wr : World) : Prop where
  head : wr.heap[Tb]? = some (.cells (treeCells n s L R P H Z) 33 (0, 0))
  rL : RowZ wr 3 L s fL
  rR : RowZ wr 3 R s fR
  rP : RowZ wr 3 P s fP
  rH : RowZ wr 2 H s fH
  rZ : RowZ wr 3 Z s fZ
  rG : Row2 wr G n up tp
  only : Only [] w wr
theorem TT.congr {w : World} {n s Tb L R P H Z G : Nat} {fL fR fP fH fZ fL' fR' fP' fH' fZ' : Nat → Int} {up tp up' tp' : Nat → Nat} {wr : World} (h : TT w n s Tb L R P H Z G fL fR fP fH fZ up tp wr)
    (e : ∀ i, i < s → fL i = fL' i ∧ fR i = fR' i ∧ fP i = fP' i ∧ fH i = fH' i ∧ fZ i = fZ' i) (e2 : ∀ i, i < n → up i = up' i ∧ tp i = tp' i) : TT w n s Tb L R P H Z G fL' fR' fP' fH' fZ' up' tp' wr :=
  ⟨h.head, h.rL.congr fun i hi => (e i hi).1, h.rR.congr fun i hi => (e i hi).2.1, h.rP.congr fun i hi => (e i hi).2.2.1, h.rH.congr fun i hi => (e i hi).2.2.2.1, h.rZ.congr fun i hi => (e i hi).2.2.2.2, h.rG.congr e2, h.only⟩
theorem TT.drewN {w : World} {n s Tb L R P H Z G : Nat} {fL fR fP fH fZ : Nat → Int} {up tp : Nat → Nat} {wr : World} (h : TT w n s Tb L R P H Z G fL fR fP fH fZ up tp wr) (k : Nat) : TT w n s Tb L R P H Z G fL fR fP fH fZ up tp (wr.drewN k) :=
  ⟨h.head, h.rL.same rfl, h.rR.same rfl, h.rP.same rfl, h.rH.same rfl, h.rZ.same rfl, h.rG.same rfl, h.only.drewN k⟩
theorem TT.to {w : World} {n s Tb L R P H Z G : Nat} {fL fR fP fH fZ : Nat → Int} {up tp : Nat → Nat} {wr w' : World} (h : TT w n s Tb L R P H Z G fL fR fP fH fZ up tp wr) (e : wr = w') : TT w n s Tb L R P H Z G fL fR fP fH fZ up tp w' := e ▸ h
theorem TT.cells {w : World} {n s Tb L R P H Z G : Nat} {fL fR fP fH fZ : Nat → Int} {up tp : Nat → Nat} {wr : World} (h : TT w n s Tb L R P H Z G fL fR fP fH fZ up tp wr) :
    wr.cell? ⟨Tb, 0, none⟩ = some (.int .i64 n) ∧ wr.cell? ⟨Tb, 1, none⟩ = some (.slice (some ⟨L, 0, none⟩) s s) ∧ wr.cell? ⟨Tb, 2, none⟩ = some (.slice (some ⟨R, 0, none⟩) s s) ∧ wr.cell? ⟨Tb, 3, none⟩ = some (.slice (some ⟨P, 0, none⟩) s s) ∧
    wr.cell? ⟨Tb, 4, none⟩ = some (.slice (some ⟨H, 0, none⟩) s s) ∧ wr.cell? ⟨Tb, 5, none⟩ = some (.slice (some ⟨Z, 0, none⟩) s s) :=
  ⟨cell_of_heap (i := 0) h.head rfl, cell_of_heap (i := 1) h.head rfl, cell_of_heap (i := 2) h.head rfl, cell_of_heap (i := 3) h.head rfl, cell_of_heap (i := 4) h.head rfl, cell_of_heap (i := 5) h.head rfl⟩
theorem TT.uni {w : World} {n s Tb L R P H Z G : Nat} {fL fR fP fH fZ : Nat → Int} {up tp up' : Nat → Nat} {wr w' : World} (h : TT w n s Tb L R P H Z G fL fR fP fH fZ up tp wr) (hA : ApartG w Tb L R P H Z G) (hO : Only [G] wr w') (hG : Row2 w' G n up' tp) : TT w n s Tb L R P H Z G fL fR fP fH fZ up' tp w' :=
  ⟨(hO.block Tb (heap_lt h.head) (by simpa using fun e => hA.gt e.symm)).trans h.head, h.rL.only hO (by simpa using fun e => hA.gl e.symm), h.rR.only hO (by simpa using fun e => hA.gr e.symm), h.rP.only hO (by simpa using fun e => hA.gp e.symm), h.rH.only hO (by simpa using fun e => hA.gh e.symm), h.rZ.only hO (by simpa using fun e => hA.gz e.symm), hG,
    h.only.to hO fun i hi hlt => by have := hA.gg; simp at hi; omega⟩
theorem TT.setL {w : World} {n s Tb L R P H Z G : Nat} {fL fR fP fH fZ : Nat → Int} {up tp : Nat → Nat} {wr : World} (h : TT w n s Tb L R P H Z G fL fR fP fH fZ up tp wr) (hA : ApartG w Tb L R P H Z G) (i : Nat) (x : Int) : TT w n s Tb L R P H Z G (fun j => if j = i then x else fL j) fR fP fH fZ up tp (wr.setCell ⟨L, i, none⟩ (.int .i64 x)) :=
  ⟨head_other h.head hA.tl _, h.rL.set i x, h.rR.other (Ne.symm hA.lr) _, h.rP.other (Ne.symm hA.lp) _, h.rH.other (Ne.symm hA.lh) _, h.rZ.other (Ne.symm hA.lz) _, h.rG.other hA.gl _, h.only.to ((Only.refl [L] wr).setCell (by simp) _) fun i hi hlt => by have := hA.ge; simp at hi; omega⟩
theorem TT.setR {w : World} {n s Tb L R P H Z G : Nat} {fL fR fP fH fZ : Nat → Int} {up tp : Nat → Nat} {wr : World} (h : TT w n s Tb L R P H Z G fL fR fP fH fZ up tp wr) (hA : ApartG w Tb L R P H Z G) (i : Nat) (x : Int) : TT w n s Tb L R P H Z G fL (fun j => if j = i then x else fR j) fP fH fZ up tp (wr.setCell ⟨R, i, none⟩ (.int .i64 x)) :=
  ⟨head_other h.head hA.tr _, h.rL.other hA.lr _, h.rR.set i x, h.rP.other (Ne.symm hA.rp) _, h.rH.other (Ne.symm hA.rh) _, h.rZ.other (Ne.symm hA.rz) _, h.rG.other hA.gr _, h.only.to ((Only.refl [R] wr).setCell (by simp) _) fun i hi hlt => by have := hA.ge; simp at hi; omega⟩
theorem TT.setP {w : World} {n s Tb L R P H Z G : Nat} {fL fR fP fH fZ : Nat → Int} {up tp : Nat → Nat} {wr : World} (h : TT w n s Tb L R P H Z G fL fR fP fH fZ up tp wr) (hA : ApartG w Tb L R P H Z G) (i : Nat) (x : Int) : TT w n s Tb L R P H Z G fL fR (fun j => if j = i then x else fP j) fH fZ up tp (wr.setCell ⟨P, i, none⟩ (.int .i64 x)) :=
  ⟨head_other h.head hA.tp _, h.rL.other hA.lp _, h.rR.other hA.rp _, h.rP.set i x, h.rH.other (Ne.symm hA.ph) _, h.rZ.other (Ne.symm hA.pz) _, h.rG.other hA.gp _, h.only.to ((Only.refl [P] wr).setCell (by simp) _) fun i hi hlt => by have := hA.ge; simp at hi; omega⟩
theorem TT.setH {w : World} {n s Tb L R P H Z G : Nat} {fL fR fP fH fZ : Nat → Int} {up tp : Nat → Nat} {wr : World} (h : TT w n s Tb L R P H Z G fL fR fP fH fZ up tp wr) (hA : ApartG w Tb L R P H Z G) (i : Nat) (x : Int) : TT w n s Tb L R P H Z G fL fR fP (fun j => if j = i then x else fH j) fZ up tp (wr.setCell ⟨H, i, none⟩ (.int .i64 x)) :=
  ⟨head_other h.head hA.th _, h.rL.other hA.lh _, h.rR.other hA.rh _, h.rP.other hA.ph _, h.rH.set i x, h.rZ.other (Ne.symm hA.hz) _, h.rG.other hA.gh _, h.only.to ((Only.refl [H] wr).setCell (by simp) _) fun i hi hlt => by have := hA.ge; simp at hi; omega⟩
theorem TT.setZ {w : World} {n s Tb L R P H Z G : Nat} {fL fR fP fH fZ : Nat → Int} {up tp : Nat → Nat} {wr : World} (h : TT w n s Tb L R P H Z G fL fR fP fH fZ up tp wr) (hA : ApartG w Tb L R P H Z G) (i : Nat) (x : Int) : TT w n s Tb L R P H Z G fL fR fP fH (fun j => if j = i then x else fZ j) up tp (wr.setCell ⟨Z, i, none⟩ (.int .i64 x)) :=
  ⟨head_other h.head hA.tz _, h.rL.other hA.lz _, h.rR.other hA.rz _, h.rP.other hA.pz _, h.rH.other hA.hz _, h.rZ.set i x, h.rG.other hA.gz _, h.only.to ((Only.refl [Z] wr).setCell (by simp) _) fun i hi hlt => by have := hA.ge; simp at hi; omega⟩
theorem TT.setG0 {w : World} {n s Tb L R P H Z G : Nat} {fL fR fP fH fZ : Nat → Int} {up tp : Nat → Nat} {wr : World} (h : TT w n s Tb L R P H Z G fL fR fP fH fZ up tp wr) (hA : ApartG w Tb L R P H Z G) (a x : Nat) : TT w n s Tb L R P H Z G fL fR fP fH fZ (put up a x) tp (wr.setCell ⟨G, a * 2, none⟩ (.int .i64 x)) :=
  ⟨head_other h.head (Ne.symm hA.gt) _, h.rL.other (Ne.symm hA.gl) _, h.rR.other (Ne.symm hA.gr) _, h.rP.other (Ne.symm hA.gp) _, h.rH.other (Ne.symm hA.gh) _, h.rZ.other (Ne.symm hA.gz) _, h.rG.put0 a x, h.only.to ((Only.refl [G] wr).setCell (by simp) _) fun i hi hlt => by have := hA.gg; simp at hi; omega⟩
theorem TT.setG1 {w : World} {n s Tb L R P H Z G : Nat} {fL fR fP fH fZ : Nat → Int} {up tp : Nat → Nat} {wr : World} (h : TT w n s Tb L R P H Z G fL fR fP fH fZ up tp wr) (hA : ApartG w Tb L R P H Z G) (a x : Nat) : TT w n s Tb L R P H Z G fL fR fP fH fZ up (put tp a x) (wr.setCell ⟨G, a * 2 + 1, none⟩ (.int .i64 x)) :=
  ⟨head_other h.head (Ne.symm hA.gt) _, h.rL.other (Ne.symm hA.gl) _, h.rR.other (Ne.symm hA.gr) _, h.rP.other (Ne.symm hA.gp) _, h.rH.other (Ne.symm hA.gh) _, h.rZ.other (Ne.symm hA.gz) _, h.rG.put1 a x, h.only.to ((Only.refl [G] wr).setCell (by simp) _) fun i hi hlt => by have := hA.gg; simp at hi; omega⟩
theorem StartT.tt {w wc : World} {n s Tb L R P H Z : Nat} (h : StartT w n s Tb L R P H Z wc) : TT w n s Tb L R P H Z wc.heap.size (fun _ => 0) (fun _ => 0) (fun _ => 0) (fun _ => 0) (fun _ => 0) (fun _ => 0) (fun _ => 0) (wc.alloc (.cells (madeCells #[.int .i64 0, .int .i64 0] (n * 2)) 66)) ∧ ApartG w Tb L R P H Z wc.heap.size := by
  have l1 := h.rL.lt
  have l2 := h.rR.lt
  have l3 := h.rP.lt
  have l4 := h.rH.lt
  have l5 := h.rZ.lt
  have l6 := heap_lt h.head
  have ho : Only [] wc (wc.alloc (.cells (madeCells #[.int .i64 0, .int .i64 0] (n * 2)) 66)) := (Only.refl [] wc).alloc _
  exact ⟨⟨(ho.block Tb l6 (by simp)).trans h.head, h.rL.only ho (by simp), h.rR.only ho (by simp), h.rP.only ho (by simp), h.rH.only ho (by simp), h.rZ.only ho (by simp), made_row2 (heap_alloc_new wc _), h.only.trans ho⟩,
    ⟨h.apart, by omega, by omega, by omega, by omega, by omega, by omega, h.only.size⟩⟩
theorem TT.merge {w : World} {n s Tb L R P H Z G i am bm lf rg xn sl sr : Nat} {hi' : Int} {p q : Nat → Nat} {h : Nat → Int} {up : Nat → Nat} {WI : World}
    (t : TT w n s Tb L R P H Z G (fun j => if j = xn then (lf : Int) else tleft n p q i j) (fun j => if j = xn then (rg : Int) else tright n p q i j) (fun j => if j = rg then (xn : Int) else if j = lf then (xn : Int) else tpar n p q i j) (fun j => if j = xn then hi' else thei n h i j) (fun j => if j = xn then (sl : Int) + (sr : Int) else tsiz n p q i j) up (ttop n p q i) WI)
    (hA : ApartG w Tb L R P H Z G) (h1 : tA p q i = am) (h2 : tB p q i = bm) (h3 : ttop n p q i am = lf) (h4 : ttop n p q i bm = rg) (h5 : n + i = xn) (h6 : h i = hi') (h7 : tsz n p q xn = sl + sr) :
    TT w n s Tb L R P H Z G (tleft n p q (i + 1)) (tright n p q (i + 1)) (tpar n p q (i + 1)) (thei n h (i + 1)) (tsiz n p q (i + 1)) (put up bm am) (ttop n p q (i + 1)) ((WI.setCell ⟨G, bm * 2, none⟩ (.int .i64 am)).setCell ⟨G, am * 2 + 1, none⟩ (.int .i64 xn)).drew := by
  have hN := (((t.setG0 hA bm am).setG1 hA am xn).drewN 1)
  refine hN.congr (fun j hj => ⟨?_, ?_, ?_, ?_, ?_⟩) (fun j hj => ⟨rfl, ?_⟩)
  · rw [tleft_succ, h1, h3, h5]
  · rw [tright_succ, h2, h4, h5]
  · show _ = if j = ttop n p q i (tA p q i) ∨ j = ttop n p q i (tB p q i) then ((n + i : Nat) : Int) else tpar n p q i j
    rw [h1, h2, h3, h4, h5]
    by_cases c1 : j = rg
    · rw [if_pos c1, if_pos (.inr c1)]
    · rw [if_neg c1]
      by_cases c2 : j = lf
      · rw [if_pos c2, if_pos (.inl c2)]
      · rw [if_neg c2, if_neg (by omega)]
  · rw [thei_succ, h5, h6]
  · rw [tsiz_succ, h5, h7]
    rfl
  · show _ = put (ttop n p q i) (tA p q i) (n + i) j
    rw [h1, h5]
theorem forest_merge {n i am bm : Nat} {p q : Nat → Nat} {up d : Nat → Nat} (hF : Forest n up (tlab p q i) d) (h1 : tA p q i = am) (h2 : tB p q i = bm) (g2 : am < n) (g3 : bm < n) (ra : tlab p q i (tA p q i) = tA p q i) (rb : tlab p q i (tB p q i) = tB p q i) (hlt : am < bm) :
    Forest n (put up bm am) (tlab p q (i + 1)) (fun a => if tlab p q i a = bm then d a + d am + 1 else d a) := by
  rw [h1] at ra
  rw [h2] at rb
  have hF3 := hF.unite (x := am) (y := bm) g2 g3 ra rb (by omega)
  have e : tlab p q (i + 1) = fun a => if tlab p q i a = bm then am else tlab p q i a := by
    funext a
    rw [tlab_succ, h1, h2]
  rw [e]
  exact hF3

end Go.Proofs.YtipgbbhgmoehfaaDoor
