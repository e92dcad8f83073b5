import Derived.Test.YtipgbbhgmoehfaaDoorYI
/-
  graph: build.
-/
namespace Go.Proofs.YtipgbbhgmoehfaaDoor
open Go.RowKit
set_option linter.unusedSimpArgs false
set_option linter.unusedSectionVars false

/-- How many ends of the first k edges are a. -/
def dg (p q : Nat → Nat) : Nat → Nat → Nat
  | 0, _ => 0
  | k + 1, a => dg p q k a + (if p k = a then 1 else 0) + (if q k = a then 1 else 0)
theorem dg_mono (p q : Nat → Nat) (a : Nat) {k m : Nat} (h : k ≤ m) : dg p q k a ≤ dg p q m a := by
  induction m with
  | zero => obtain rfl : k = 0 := by omega
            exact Nat.le_refl _
  | succ m ih =>
    by_cases e : k = m + 1
    · rw [e]; exact Nat.le_refl _
    · have := ih (by omega)
      show _ ≤ dg p q m a + _ + _
      omega
theorem total_dg (n : Nat) (p q : Nat → Nat) : ∀ k : Nat, (∀ j, j < k → p j < n ∧ q j < n) → total n (dg p q k) = 2 * k
  | 0, _ => total_zero n
  | k + 1, h => by
    have e : total n (dg p q (k + 1)) = total n (fun a => (dg p q k a + (if a = p k then 1 else 0)) + (if a = q k then 1 else 0)) := total_congr fun a _ => by
      show dg p q k a + (if p k = a then 1 else 0) + (if q k = a then 1 else 0) = _
      simp only [eq_comm]
    have h1 := h k (by omega)
    rw [e, total_add n (fun a => dg p q k a + (if a = p k then 1 else 0)) (fun a => if a = q k then 1 else 0), total_add n (dg p q k) (fun a => if a = p k then 1 else 0), total_at h1.1, total_at h1.2]
    have h2 := total_dg n p q k fun j hj => h j (by omega)
    rw [h2]
    omega
theorem index2_0 (a d : Int) (w : World) : (Instr.index 66 (.agg #[.int .i64 a, .int .i64 d]) (.int .i64 0)).run Tryd.prog w = .ok (.int .i64 a) w := by
  simp [Instr.index, run_underlying Tryd.underlying66, asIntOf]
  first | kernel_rfl | rfl | (simp [part, run_underlying Tryd.underlying3]; done) | (simp [part, run_underlying Tryd.underlying3]; rfl)
theorem index2_1 (a d : Int) (w : World) : (Instr.index 66 (.agg #[.int .i64 a, .int .i64 d]) (.int .i64 1)).run Tryd.prog w = .ok (.int .i64 d) w := by
  simp [Instr.index, run_underlying Tryd.underlying66, asIntOf]
  first | kernel_rfl | rfl | (simp [part, run_underlying Tryd.underlying3]; done) | (simp [part, run_underlying Tryd.underlying3]; rfl)
/-- The graph under way. -/
structure Bld (w : World) (n m G S L : Nat) (A : Option Addr) (c : Nat) (fs : Nat → Nat) (wr : World) : Prop where
  head : wr.heap[G]? = some (.cells #[.pointer (some ⟨G, 0, none⟩), .slice A m c, .slice (some ⟨S, 0, none⟩) (n + 1) (n + 1), .slice (some ⟨L, 0, none⟩) (2 * m) (2 * m)] 126 (0, 0))
  row : Row wr S (n + 1) fs
  lst : ∃ fl, Row wr L (2 * m) fl
  only : Only [] w wr
theorem dg_le (p q : Nat → Nat) (a : Nat) : ∀ k : Nat, dg p q k a ≤ 2 * k
  | 0 => Nat.le_refl _
  | k + 1 => by
    have := dg_le p q a k
    show dg p q k a + (if p k = a then 1 else 0) + (if q k = a then 1 else 0) ≤ _
    split <;> split <;> omega
section
variable {w : World} {n m G S L : Nat} {A : Option Addr} {c : Nat} {fs : Nat → Nat} {wr : World} (h : Bld w n m G S L A c fs wr)
include h
theorem Bld.keep {W1 : World} (o : Only [] wr W1) : Bld w n m G S L A c fs W1 :=
  ⟨(o.block G (heap_lt h.head) (by simp)).trans h.head, h.row.only o (by simp), let ⟨fl, hl⟩ := h.lst; ⟨fl, hl.only o (by simp)⟩, h.only.trans o⟩
theorem Bld.congr {fs' : Nat → Nat} (e : ∀ i, i < n + 1 → fs i = fs' i) : Bld w n m G S L A c fs' wr := ⟨h.head, h.row.congr e, h.lst, h.only⟩
theorem Bld.put (hGS : G ≠ S) (hSL : S ≠ L) (hS : w.heap.size ≤ S) (i x : Nat) : Bld w n m G S L A c (put fs i x) (wr.setCell ⟨S, i, none⟩ (.int .i64 x)) :=
  ⟨head_other h.head hGS _, h.row.put i x, let ⟨fl, hl⟩ := h.lst; ⟨fl, hl.set_other hSL.symm _⟩, h.only.to ((Only.refl [S] wr).setCell (by simp) _) fun j hj hlt => by simp at hj; omega⟩
theorem Bld.lcell {i : Nat} (hi : i < 2 * m) : (∃ y : Nat, wr.cell? ⟨L, i, none⟩ = some (.int .i64 y)) ∧ wr.frozen? ⟨L, i, none⟩ = false := by
  obtain ⟨fl, hl⟩ := h.lst
  exact ⟨⟨_, hl.cell hi⟩, hl.frozen i⟩
theorem Bld.lput (hGL : G ≠ L) (hSL : S ≠ L) (hL : w.heap.size ≤ L) (i x : Nat) : Bld w n m G S L A c fs (wr.setCell ⟨L, i, none⟩ (.int .i64 x)) :=
  ⟨head_other h.head hGL _, h.row.set_other hSL _, let ⟨fl, hl⟩ := h.lst; ⟨_, hl.put i x⟩, h.only.to ((Only.refl [L] wr).setCell (by simp) _) fun j hj hlt => by simp at hj; omega⟩
theorem Bld.xput {X : Nat} (h1 : X ≠ G) (h2 : X ≠ S) (h3 : X ≠ L) (hX : w.heap.size ≤ X) (i : Nat) (x : Value) : Bld w n m G S L A c fs (wr.setCell ⟨X, i, none⟩ x) :=
  ⟨head_other h.head h1.symm _, h.row.set_other h2.symm _, let ⟨fl, hl⟩ := h.lst; ⟨_, hl.set_other h3.symm _⟩, h.only.to ((Only.refl [X] wr).setCell (by simp) _) fun j hj hlt => by simp at hj; omega⟩
end
theorem total_pre {n m : Nat} (h : n ≤ m) (f : Nat → Nat) : total n f ≤ total m f := by
  induction m with
  | zero => obtain rfl : n = 0 := by omega
            exact Nat.le_refl _
  | succ m ih =>
    by_cases e : n = m + 1
    · rw [e]; exact Nat.le_refl _
    · have := ih (by omega)
      show _ ≤ total m f + f m
      omega
def GStart (w : World) (n m : Nat) (A : Option Addr) (c : Nat) (s : Value) (wc : World) : Prop := ∃ G S L : Nat, s = .pointer (some ⟨G, 0, none⟩) ∧ S ≠ L ∧ (w.heap.size ≤ G ∧ w.heap.size ≤ S ∧ w.heap.size ≤ L) ∧
  wc.heap[G]? = some (.cells #[.pointer none, .slice A m c, .slice (some ⟨S, 0, none⟩) (n + 1) (n + 1), .slice (some ⟨L, 0, none⟩) (2 * m) (2 * m)] 126 (0, 0)) ∧ Row wc S (n + 1) (fun _ => 0) ∧ Row wc L (2 * m) (fun _ => 0) ∧ Only [] w wc
theorem gstart_of {w w2 : World} {n m a b : Nat} {A : Option Addr} {c : Nat} (h2 : w2.heap.size = w.heap.size + 2) (hO : Only [] w w2) (ha : a < 2) (hb : b < 2) (hab : a ≠ b)
    (ra : w2.heap[w.heap.size + a]? = some (.cells (madeCells #[.int .i64 0] (n + 1)) 3 (0, 0))) (rb : w2.heap[w.heap.size + b]? = some (.cells (madeCells #[.int .i64 0] (2 * m)) 3 (0, 0))) :
    GStart w n m A c (.pointer (some ⟨w.heap.size + 1 + 1, 0, none⟩)) ((w2.alloc (.cells #[.pointer none, .slice A m c, .slice (some ⟨w.heap.size + a, 0, none⟩) (n + 1) (n + 1), .slice (some ⟨w.heap.size + b, 0, none⟩) (2 * m) (2 * m)] 126)).drew) := by
  refine ⟨_, w.heap.size + a, w.heap.size + b, rfl, by omega, ⟨by omega, by omega, by omega⟩, ?_, made_row ((heap_alloc_old _ _ (by omega)).trans ra), made_row ((heap_alloc_old _ _ (by omega)).trans rb), (hO.alloc _).drewN 1⟩
  have := heap_alloc_new w2 (.cells #[.pointer none, .slice A m c, .slice (some ⟨w.heap.size + a, 0, none⟩) (n + 1) (n + 1), .slice (some ⟨w.heap.size + b, 0, none⟩) (2 * m) (2 * m)] 126)
  rwa [h2] at this
theorem two_made (w : World) (o o' : Obj) : ((w.alloc o).alloc o').heap.size = w.heap.size + 2 ∧ Only [] w ((w.alloc o).alloc o') := ⟨by simp only [World.size_alloc], ((Only.refl [] w).alloc _).alloc _⟩
theorem two_rows (w : World) (a b : Array Value) (t : TypeId) : ((w.alloc (.cells a t)).alloc (.cells b t)).heap[w.heap.size + 0]? = some (.cells a t (0, 0)) ∧ ((w.alloc (.cells a t)).alloc (.cells b t)).heap[w.heap.size + 1]? = some (.cells b t (0, 0)) := by
  constructor
  · rw [heap_alloc_old _ _ (by simp only [World.size_alloc]; omega)]
    exact heap_alloc_new w _
  · have := heap_alloc_new (w.alloc (.cells a t)) (.cells b t)
    rwa [World.size_alloc] at this

set_option maxRecDepth 100000 in
set_option maxHeartbeats 4000000 in
theorem build_any (A : Option Addr) (n m c : Nat) (u v x : Nat → Int) (p q : Nat → Nat) (hpq : ∀ j, j < m → u j = p j ∧ v j = q j ∧ p j < n ∧ q j < n) (w : World) (h : EdgesIn w A m u v x) (hn : n ≤ 4096) (hm : m ≤ 16384) : Calls Tryd.prog 37 #[.int .i64 n, .slice A m c] w fun e w' => ∃ G S L, e = .returned (.pointer (some ⟨G, 0, none⟩)) ∧ ∃ fs, Bld w n m G S L A c fs w' := by
  have hmk : ∀ W, (Instr.makeSlice 31 (.int .i64 ((n : Int) + 1)) (.int .i64 ((n : Int) + 1))).run Tryd.prog W = .ok (.slice (some ⟨W.heap.size, 0, none⟩) (n + 1) (n + 1)) (W.alloc (.cells (madeCells #[.int .i64 0] (n + 1)) 3)) := fun W => mk_ints (n + 1) (by omega) W
  have hmk2 : ∀ W, (Instr.makeSlice 31 (.int .i64 (2 * (m : Int))) (.int .i64 (2 * (m : Int)))).run Tryd.prog W = .ok (.slice (some ⟨W.heap.size, 0, none⟩) (2 * m) (2 * m)) (W.alloc (.cells (madeCells #[.int .i64 0] (2 * m)) 3)) := fun W => mk_ints (2 * m) (by omega) W
  have hw1 : IntKind.i64.wrap ((n : Int) + 1) = (n : Int) + 1 := IntWalk.i64_in _ (by omega)
  have hw2 : IntKind.i64.wrap (2 * (m : Int)) = 2 * (m : Int) := IntWalk.i64_in _ (by omega)
  have HE := Lib.hid h
  clear h
  go_enter Tryd.func37, Tryd.ntmps37
  go_upto_region 1 with (fail)
  go_cut [5] from 24 (fun s wc => GStart w n m A c s wc)
  case first =>
    go_region
    all_goals
      go_wp2
      go_meet
    · exact gstart_of (two_made _ _ _).1 (two_made _ _ _).2 (by omega) (by omega) (by omega) (two_rows w _ _ _).1 (two_rows w _ _ _).2
    · exact gstart_of (two_made _ _ _).1 (two_made _ _ _).2 (by omega) (by omega) (by omega) (two_rows w _ _ _).2 (two_rows w _ _ _).1
  case rest =>
    obtain ⟨G, S, L, rfl, hSL, ⟨b1, b2, b3⟩, hG, hS, hL, hO⟩ := hcut
    clear hmk hmk2 hw1 hw2
    have c0 := cell_of_heap (i := 0) hG rfl
    have z0 := frozen_of_heap (i := 0) hG
    have hne : ∀ {g k : Nat} {f : Nat → Nat}, Row wc g k f → G ≠ g := fun hr e => by
      subst e
      obtain ⟨cs, hc⟩ := hr.heap
      rw [hG] at hc
      cases hc
    have hGS := hne hS
    have hGL := hne hL
    clear hne
    have H0 := Lib.hid (show Bld w n m G S L A c (fun _ => 0) (wc.setCell ⟨G, 0, none⟩ (.pointer (some ⟨G, 0, none⟩))) from
      ⟨heap_setCell_same wc G 0 _ 126 _ hG, hS.set_other hGS.symm _, ⟨_, hL.set_other hGL.symm _⟩, hO.to ((Only.refl [G] wc).setCell (by simp) _) (fun i hi hlt => by simp at hi; omega)⟩)
    clear hG hS hL hO
    go_wp2_with fail
    go_loopw [30] (fun i wr => ∃ k : Nat, k ≤ m ∧ i = .int .i64 k ∧ Hid (Bld w n m G S L A c (fun i => if i = 0 then 0 else dg p q k (i - 1)) wr)) (fun i _ => m - (intOf i).toNat)
    case atStart => exact ⟨0, Nat.zero_le _, rfl, Lib.hid ⟨H0.out.head, H0.out.row.congr fun i _ => by split <;> rfl, H0.out.lst, H0.out.only⟩⟩
    case round =>
      clear H0
      obtain ⟨k, hk, rfl, H1⟩ := hrel
      by_cases hlt : k < m
      · obtain ⟨b, off, rfl, hb, e0, e1, e2⟩ := (HE.out.only H1.out.only).cell hlt
        go_upto_region 6 with (fail)
        obtain ⟨hu, hv, hpn, hqn⟩ := hpq k hlt
        obtain ⟨a, ha⟩ : ∃ a, p k = a := ⟨_, rfl⟩
        obtain ⟨d, hd⟩ : ∃ d, q k = d := ⟨_, rfl⟩
        rw [ha] at hpn ⊢
        rw [hd] at hqn ⊢
        have HN := Lib.hid (show ∀ i, put (put (fun i => if i = 0 then 0 else dg p q k (i - 1)) (a + 1) (dg p q k a + 1)) (d + 1) (dg p q k d + (if a = d then 1 else 0) + 1) i = (if i = 0 then 0 else dg p q (k + 1) (i - 1)) from fun i => by
          unfold Go.Proofs.YtipgbbhgmoehfaaDoor.put
          simp only [dg, ha, hd]
          by_cases h0 : i = 0
          · rw [if_neg (by omega), if_neg (by omega), if_pos h0, if_pos h0]
          · rw [if_neg h0, if_neg h0]
            by_cases h1 : i = d + 1
            · rw [if_pos h1, show i - 1 = d by omega, if_pos rfl]
            · rw [if_neg h1, if_neg (show ¬ d = i - 1 by omega)]
              by_cases h2 : i = a + 1
              · rw [if_pos h2, show i - 1 = a by omega, if_pos rfl]
              · rw [if_neg h2, if_neg (show ¬ a = i - 1 by omega)]; rfl)
        have hl1 := dg_le p q a k
        have hl2 := dg_le p q d k
        obtain ⟨W1, hW1⟩ : ∃ W1, wr.alloc (.cells #[.int .i64 (a : Int), .int .i64 (d : Int), .int .i64 (x k)] 49) = W1 := ⟨_, rfl⟩
        obtain ⟨e, he⟩ : ∃ e, wr.heap.size = e := ⟨_, rfl⟩
        have hE : W1.heap[e]? = some (.cells #[.int .i64 (a : Int), .int .i64 (d : Int), .int .i64 (x k)] 49 (0, 0)) := by rw [← hW1, ← he]; exact heap_alloc_new _ _
        have H2 := Lib.hid (H1.out.keep (hW1 ▸ (Only.refl [] wr).alloc _))
        rw [he, hW1]
        have f0 := cell_of_heap (i := 0) hE rfl
        have f1 := cell_of_heap (i := 1) hE rfl
        replace f0 : W1.cell? ⟨e, 0, none⟩ = some (.int .i64 (a : Int)) := f0
        replace f1 : W1.cell? ⟨e, 1, none⟩ = some (.int .i64 (d : Int)) := f1
        have hSe : S ≠ e := fun e2 => by
          obtain ⟨cs, hc⟩ := H2.out.row.heap
          rw [e2, hE] at hc
          cases hc
        have hGe : G ≠ e := fun e2 => by
          have hc := H2.out.head
          rw [e2, hE] at hc
          cases hc
        have s2 := cell_of_heap (i := 2) H2.out.head rfl
        replace s2 : W1.cell? ⟨G, 2, none⟩ = some (.slice (some ⟨S, 0, none⟩) (n + 1) (n + 1)) := s2
        have r1 := H2.out.row.cell (i := a + 1) (by omega)
        replace r1 : W1.cell? ⟨S, a + 1, none⟩ = some (.int .i64 (dg p q k a : Nat)) := by rw [r1]; simp
        have z1 := H2.out.row.frozen (a + 1)
        clear hE hW1 he H1 e0 e1 e2 hb hu hv ha hd
        obtain ⟨g1, hg1⟩ : ∃ g1, dg p q k a = g1 := ⟨_, rfl⟩
        have HG1 := Lib.hid (hg1.symm)
        rw [hg1] at r1 hl1 HN
        replace HG1 := Lib.hid HG1.out.symm
        clear hg1
        go_region
        go_upto_region 7 with (fail)
        obtain ⟨W2, hW2⟩ : ∃ W2, (W1.setCell ⟨S, a + 1, none⟩ (.int .i64 ((g1 : Int) + 1))).drew = W2 := ⟨_, rfl⟩
        have H3 := Lib.hid (show Bld w n m G S L (some ⟨b, off, none⟩) c _ W2 from by rw [← hW2]; exact (H2.out.put hGS hSL b2 (a + 1) (g1 + 1)).keep ((Only.refl [] _).drewN 1))
        have f1' : W2.cell? ⟨e, 1, none⟩ = some (.int .i64 (d : Int)) := by
          rw [← hW2]; exact (World.cell?_of_block (w := W1) (heap_setCell_other W1 ⟨S, a + 1, none⟩ e _ hSe.symm)).trans f1
        have s3 := cell_of_heap (i := 2) H3.out.head rfl
        replace s3 : W2.cell? ⟨G, 2, none⟩ = some (.slice (some ⟨S, 0, none⟩) (n + 1) (n + 1)) := s3
        have r2 := H3.out.row.cell (i := d + 1) (by omega)
        obtain ⟨g2, hg2⟩ : ∃ g2, dg p q k d + (if a = d then 1 else 0) = g2 := ⟨_, rfl⟩
        replace r2 : W2.cell? ⟨S, d + 1, none⟩ = some (.int .i64 (g2 : Nat)) := by
          rw [r2, ← hg2]
          unfold Go.Proofs.YtipgbbhgmoehfaaDoor.put
          by_cases ed : a = d
          · subst ed; rw [if_pos rfl, if_pos rfl, HG1.out]
          · rw [if_neg (by omega), if_neg ed]; simp
        have z2 := H3.out.row.frozen (d + 1)
        have hl3 : g2 ≤ 2 * k + 1 := by rw [← hg2]; split <;> omega
        rw [hg2] at HN
        rw [hW2]
        clear hW2 hg2 hl1 hl2 f0 f1 s2 r1 z1 H2
        go_region
        go_wp2_with fail
        go_roundw
        case rel => exact ⟨k + 1, by omega, by go_num, Lib.hid (((H3.out.put hGS hSL b2 (d + 1) (g2 + 1)).keep ((Only.refl [] _).drewN 1)).congr fun i _ => HN.out i)⟩
        case measure => simp [intOf]; omega
      · obtain rfl : k = m := by omega
        have HT := Lib.hid (total_dg n p q k fun j hj => ⟨(hpq j hj).2.2.1, (hpq j hj).2.2.2⟩)
        have HD := Lib.hid (fun a => dg_mono p q a (k := 0) (m := k) (by omega))
        have hPQ := Lib.hid hpq
        have H2 := Lib.hid (show Bld w n k G S L A c (fun i => if i ≤ 0 then total i (dg p q k) else dg p q k (i - 1)) wr from H1.out.congr fun i _ => by
          by_cases h0 : i = 0
          · subst h0; rfl
          · rw [if_neg h0, if_neg (by omega)])
        clear H1 hpq
        go_wp2_with fail
        go_loopw [58] (fun i wr => ∃ j : Nat, j ≤ n ∧ i = .int .i64 j ∧ Hid (Bld w n k G S L A c (fun i => if i ≤ j then total i (dg p q k) else dg p q k (i - 1)) wr)) (fun i _ => n - (intOf i).toNat)
        case atStart => exact ⟨0, Nat.zero_le _, rfl, H2⟩
        case round =>
          clear H2
          obtain ⟨j, hj, rfl, H3⟩ := hrel
          by_cases hlt2 : j < n
          · have s2 := cell_of_heap (i := 2) H3.out.head rfl
            replace s2 : wr.cell? ⟨G, 2, none⟩ = some (.slice (some ⟨S, 0, none⟩) (n + 1) (n + 1)) := s2
            have r1 := H3.out.row.cell (i := j + 1) (by omega)
            have r2 := H3.out.row.cell (i := j) (by omega)
            have z1 := H3.out.row.frozen (j + 1)
            rw [if_neg (by omega), Nat.add_sub_cancel] at r1
            rw [if_pos (Nat.le_refl _)] at r2
            have t1 : total (j + 1) (dg p q k) ≤ 2 * k := HT.out ▸ total_pre (by omega) _
            have t2 : total (j + 1) (dg p q k) = total j (dg p q k) + dg p q k j := rfl
            have HN := Lib.hid (show ∀ i, put (fun i => if i ≤ j then total i (dg p q k) else dg p q k (i - 1)) (j + 1) (dg p q k j + total j (dg p q k)) i = (if i ≤ j + 1 then total i (dg p q k) else dg p q k (i - 1)) from fun i => by
              unfold Go.Proofs.YtipgbbhgmoehfaaDoor.put
              by_cases e : i = j + 1
              · rw [if_pos e, if_pos (by omega), e, t2, Nat.add_comm]
              · rw [if_neg e]
                show (if i ≤ j then total i (dg p q k) else dg p q k (i - 1)) = _
                by_cases e2 : i ≤ j
                · rw [if_pos e2, if_pos (by omega)]
                · rw [if_neg e2, if_neg (by omega)])
            obtain ⟨g1, hg1⟩ : ∃ g1, dg p q k j = g1 := ⟨_, rfl⟩
            obtain ⟨g2, hg2⟩ : ∃ g2, total j (dg p q k) = g2 := ⟨_, rfl⟩
            rw [hg1] at r1 t2 HN
            rw [hg2] at r2 t2 HN
            have hb : g1 + g2 ≤ 2 * k := by omega
            clear hg1 hg2 t1 t2
            go_wp2_with fail
            go_region
            go_wp2_with fail
            go_roundw
            case rel => exact ⟨j + 1, by omega, by go_num, Lib.hid (((H3.out.put hGS hSL b2 (j + 1) (g1 + g2)).keep ((Only.refl [] _).drewN 1)).congr fun i _ => HN.out i)⟩
            case measure => simp [intOf]; omega
          · obtain rfl : j = n := by omega
            have s2 := cell_of_heap (i := 2) H3.out.head rfl
            replace s2 : wr.cell? ⟨G, 2, none⟩ = some (.slice (some ⟨S, 0, none⟩) (j + 1) (j + 1)) := s2
            go_wp2_with fail
            refine (Clone_int S (j + 1) (j + 1) _ wr H3.out.row (by omega)).mono ?_
            rintro e wx ⟨X, cx, rfl, hX, hsz, hO⟩
            have hXb : w.heap.size ≤ X := Nat.le_trans H3.out.only.size hsz
            have hXG : X ≠ G := by have := heap_lt H3.out.head; omega
            have hXS : X ≠ S := by have := H3.out.row.lt; omega
            have hXL : X ≠ L := by have := H3.out.lst.choose_spec.lt; omega
            have H4 := Lib.hid (H3.out.keep hO)
            have X0 := Lib.hid (show Row wx X (j + 1) (fun a => total a (dg p q k) + dg p q 0 a) from hX.congr fun i hi => if_pos (by omega))
            clear hX hsz hO H3 s2
            go_wp2_with fail
            go_loopw [86] (fun i wr => ∃ r : Nat, r ≤ k ∧ i = .int .i64 r ∧ Hid (Bld w j k G S L A c (fun i => if i ≤ j then total i (dg p q k) else dg p q k (i - 1)) wr) ∧ Hid (Row wr X (j + 1) (fun a => total a (dg p q k) + dg p q r a))) (fun i _ => k - (intOf i).toNat)
            case atStart => exact ⟨0, Nat.zero_le _, rfl, H4, X0⟩
            case round =>
              clear H4 X0
              obtain ⟨r, hr, rfl, H5, X5⟩ := hrel
              by_cases hlt3 : r < k
              · obtain ⟨b, off, rfl, hb, e0, e1, e2⟩ := (HE.out.only H5.out.only).cell hlt3
                obtain ⟨hu, hv, hpn, hqn⟩ := hPQ.out r hlt3
                obtain ⟨a, ha⟩ : ∃ a, p r = a := ⟨_, rfl⟩
                obtain ⟨d, hd⟩ : ∃ d, q r = d := ⟨_, rfl⟩
                rw [ha] at hpn hu
                rw [hd] at hqn hv
                rw [hu] at e0
                rw [hv] at e1
                have HN := Lib.hid (show ∀ i, put (put (fun i => total i (dg p q k) + dg p q r i) a (total a (dg p q k) + dg p q r a + 1)) d (total d (dg p q k) + dg p q r d + (if a = d then 1 else 0) + 1) i = total i (dg p q k) + dg p q (r + 1) i from fun i => by
                  unfold Go.Proofs.YtipgbbhgmoehfaaDoor.put
                  simp only [dg, ha, hd]
                  by_cases h1 : i = d
                  · rw [if_pos h1, h1, if_pos rfl]; omega
                  · rw [if_neg h1, if_neg (show ¬ d = i by omega)]
                    by_cases h2 : i = a
                    · rw [if_pos h2, h2, if_pos rfl]; omega
                    · rw [if_neg h2, if_neg (show ¬ a = i by omega)]; rfl)
                have b4 : total a (dg p q k) + dg p q r a + 1 ≤ 2 * k := by
                  have h1 : total (a + 1) (dg p q k) ≤ 2 * k := HT.out ▸ total_pre (by omega) _
                  have h2 : total (a + 1) (dg p q k) = total a (dg p q k) + dg p q k a := rfl
                  have h3 := dg_mono p q a (k := r + 1) (m := k) (by omega)
                  have h4 : dg p q (r + 1) a = dg p q r a + (if p r = a then 1 else 0) + (if q r = a then 1 else 0) := rfl
                  rw [if_pos ha] at h4
                  omega
                have b5 : total d (dg p q k) + dg p q r d + (if a = d then 1 else 0) + 1 ≤ 2 * k := by
                  have h1 : total (d + 1) (dg p q k) ≤ 2 * k := HT.out ▸ total_pre (by omega) _
                  have h2 : total (d + 1) (dg p q k) = total d (dg p q k) + dg p q k d := rfl
                  have h3 := dg_mono p q d (k := r + 1) (m := k) (by omega)
                  have h4 : dg p q (r + 1) d = dg p q r d + (if p r = d then 1 else 0) + (if q r = d then 1 else 0) := rfl
                  rw [if_pos hd, ha] at h4
                  omega
                clear ha hd hu hv
                go_wp2_with fail
                obtain ⟨W1, hW1⟩ : ∃ W1, wr.alloc (.cells #[.int .i64 (a : Int), .int .i64 (d : Int), .int .i64 (x r)] 49) = W1 := ⟨_, rfl⟩
                have H6 := Lib.hid (H5.out.keep (hW1 ▸ (Only.refl [] wr).alloc _))
                have X6 := Lib.hid (X5.out.only (hW1 ▸ (Only.refl [] wr).alloc _) (by simp))
                rw [hW1]
                clear hW1 H5 X5 e0 e1 e2 hb
                have s3 := cell_of_heap (i := 3) H6.out.head rfl
                replace s3 : W1.cell? ⟨G, 3, none⟩ = some (.slice (some ⟨L, 0, none⟩) (2 * k) (2 * k)) := s3
                have x1 := X6.out.cell (i := a) (by omega)
                obtain ⟨g1, hg1⟩ : ∃ g1, total a (dg p q k) + dg p q r a = g1 := ⟨_, rfl⟩
                rw [hg1] at x1 HN b4
                obtain ⟨⟨y1, l1⟩, z1⟩ := H6.out.lcell (i := g1) (by omega)
                have z2 := X6.out.frozen a
                have ix0 := index2_0 (a : Int) (d : Int)
                have ix1 := index2_1 (a : Int) (d : Int)
                refine wp_loop_rounds 3 ?_
                rw [rounds_succ]
                go_wp2_with fail
                go_region
                go_wp2_with fail
                obtain ⟨W2, hW2⟩ : ∃ W2, ((W1.setCell ⟨L, g1, none⟩ (.int .i64 (r : Int))).setCell ⟨X, a, none⟩ (.int .i64 ((g1 : Int) + 1))).drew = W2 := ⟨_, rfl⟩
                have H7 := Lib.hid (show Bld w j k G S L (some ⟨b, off, none⟩) c _ W2 from by rw [← hW2]; exact ((H6.out.lput hGL hSL b3 g1 r).xput hXG hXS hXL hXb a _).keep ((Only.refl [] _).drewN 1))
                have X7 := Lib.hid (show Row W2 X (j + 1) _ from by rw [← hW2]; exact ((X6.out.set_other hXL _).put a (g1 + 1)).only ((Only.refl [] _).drewN 1) (by simp))
                obtain ⟨g2, hg2⟩ : ∃ g2, total d (dg p q k) + dg p q r d + (if a = d then 1 else 0) = g2 := ⟨_, rfl⟩
                have s4 := cell_of_heap (i := 3) H7.out.head rfl
                replace s4 : W2.cell? ⟨G, 3, none⟩ = some (.slice (some ⟨L, 0, none⟩) (2 * k) (2 * k)) := s4
                have x2 := X7.out.cell (i := d) (by omega)
                replace x2 : W2.cell? ⟨X, d, none⟩ = some (.int .i64 (g2 : Nat)) := by
                  rw [x2, ← hg2]
                  unfold Go.Proofs.YtipgbbhgmoehfaaDoor.put
                  by_cases ed : a = d
                  · subst ed; rw [if_pos rfl, if_pos rfl, hg1]
                  · rw [if_neg (show ¬ d = a by omega), if_neg ed]; simp
                rw [hg2] at HN b5
                obtain ⟨⟨y2, l2⟩, z3⟩ := H7.out.lcell (i := g2) (by omega)
                have z4 := X7.out.frozen d
                rw [hW2]
                clear hW2 hg1 hg2 s3 x1 l1 z1 z2 H6 X6
                rw [rounds_succ]
                go_wp2_with fail
                go_region
                go_wp2_with fail
                rw [rounds_succ]
                go_wp2_with fail
                go_roundw
                case rel => exact ⟨r + 1, by omega, by go_num, Lib.hid (((H7.out.lput hGL hSL b3 g2 r).xput hXG hXS hXL hXb d _).keep ((Only.refl [] _).drewN 1)), Lib.hid ((((X7.out.set_other hXL _).put d (g2 + 1)).only ((Only.refl [] _).drewN 1) (by simp)).congr fun i _ => HN.out i)⟩
                case measure => simp [intOf]; omega
              · go_wp2_with fail
                go_ret
                exact ⟨G, S, L, rfl, _, H5.out⟩

end Go.Proofs.YtipgbbhgmoehfaaDoor

/-
  graph: New.
-/
namespace Go.Proofs.YtipgbbhgmoehfaaDoor
open Go.RowKit
set_option linter.unusedSimpArgs false
set_option linter.unusedSectionVars false

def InE (n : Int) (u v : Nat → Int) (j : Nat) : Prop := (0 ≤ u j ∧ u j < n) ∧ 0 ≤ v j ∧ v j < n
def GoodE (n : Int) (u v : Nat → Int) (j : Nat) : Prop := InE n u v j ∧ u j ≠ v j
/-- The error of a graph. -/
def GCode (n : Int) (m : Nat) (u v : Nat → Int) (c : Int) : Prop :=
  ((n < 0 ∨ 4096 < n ∨ 16384 < m) ∧ c = 2) ∨ ((0 ≤ n ∧ n ≤ 4096 ∧ m ≤ 16384) ∧
    ((∃ k, k < m ∧ (∀ j, j < k → GoodE n u v j) ∧ ((¬ InE n u v k ∧ c = 3) ∨ (InE n u v k ∧ u k = v k ∧ c = 9))) ∨ ((∀ j, j < m → GoodE n u v j) ∧ c = 0)))
theorem first_bad (n : Int) (u v : Nat → Int) : ∀ m : Nat, (∀ j, j < m → GoodE n u v j) ∨ ∃ k, k < m ∧ (∀ j, j < k → GoodE n u v j) ∧ ¬ GoodE n u v k
  | 0 => .inl fun j hj => by omega
  | m + 1 => by
    rcases first_bad n u v m with h | ⟨k, hk, h1, h2⟩
    · by_cases hg : GoodE n u v m
      · refine .inl fun j hj => ?_
        by_cases e : j = m
        · rw [e]; exact hg
        · exact h j (by omega)
      · exact .inr ⟨m, by omega, h, hg⟩
    · exact .inr ⟨k, by omega, h1, h2⟩
theorem gcode_is (n : Int) (m : Nat) (u v : Nat → Int) : ∃ c, GCode n m u v c := by
  by_cases h0 : n < 0 ∨ 4096 < n ∨ 16384 < m
  · exact ⟨2, .inl ⟨h0, rfl⟩⟩
  · rcases first_bad n u v m with h | ⟨k, hk, h1, h2⟩
    · exact ⟨0, .inr ⟨by omega, .inr ⟨h, rfl⟩⟩⟩
    · by_cases hi : InE n u v k
      · refine ⟨9, .inr ⟨by omega, .inl ⟨k, hk, h1, .inr ⟨hi, ?_, rfl⟩⟩⟩⟩
        by_cases e : u k = v k
        · exact e
        · exact absurd ⟨hi, e⟩ h2
      · exact ⟨3, .inr ⟨by omega, .inl ⟨k, hk, h1, .inl ⟨hi, rfl⟩⟩⟩⟩
theorem gcode_ok {n : Int} {m : Nat} {u v : Nat → Int} (h : GCode n m u v 0) : (0 ≤ n ∧ n ≤ 4096 ∧ m ≤ 16384) ∧ ∀ j, j < m → GoodE n u v j := by
  rcases h with ⟨_, h⟩ | ⟨h1, ⟨k, _, _, ⟨_, h⟩ | ⟨_, _, h⟩⟩ | ⟨h, _⟩⟩
  · omega
  · omega
  · omega
  · exact ⟨h1, h⟩
/-- At the first bad edge. -/
theorem gcode_at {n : Int} {m k : Nat} {u v : Nat → Int} {c : Int} (h : GCode n m u v c) (h0 : 0 ≤ n ∧ n ≤ 4096 ∧ m ≤ 16384) (hk : k < m) (hg : ∀ j, j < k → GoodE n u v j) (hb : ¬ GoodE n u v k) : (¬ InE n u v k → c = 3) ∧ (InE n u v k → c = 9) := by
  rcases h with ⟨h1, _⟩ | ⟨_, ⟨i, hi, g1, g2⟩ | ⟨h1, _⟩⟩
  · omega
  · have hb2 : ¬ GoodE n u v i := by
      rcases g2 with ⟨h1, _⟩ | ⟨_, h1, _⟩
      · exact fun h => h1 h.1
      · exact fun h => h.2 h1
    obtain rfl : i = k := by
      rcases Nat.lt_trichotomy i k with h | h | h
      · exact absurd (hg i h) hb2
      · exact h
      · exact absurd (g1 k h) hb
    rcases g2 with ⟨h1, rfl⟩ | ⟨h1, _, rfl⟩
    · exact ⟨fun _ => rfl, fun h => absurd h h1⟩
    · exact ⟨fun h => absurd h1 h, fun _ => rfl⟩
  · exact absurd (h1 k hk) hb

def GNewPost (n : Int) (m : Nat) (u v x : Nat → Int) (k : Int) (w : World) (e : Ending) (w' : World) : Prop :=
  Only [] w w' ∧ ((k ≠ 0 ∧ e = .returned (.tuple #[.pointer none, .int .i64 k])) ∨ (k = 0 ∧ ∃ G S L A' c' fs, e = .returned (.tuple #[.pointer (some ⟨G, 0, none⟩), .int .i64 0]) ∧ Hid (Bld w n.toNat m G S L A' c' fs w' ∧ EdgesIn w' A' m u v x)))
set_option maxRecDepth 100000 in
set_option maxHeartbeats 4000000 in
theorem GNew_any (n : Int) (A : Option Addr) (m c : Nat) (u v x : Nat → Int) (w : World) (h : EdgesIn w A m u v x) (k : Int) (hk : GCode n m u v k) : Calls Tryd.prog 24 #[.int .i64 n, .slice A m c] w (GNewPost n m u v x k w) := by
  have hl := h.len
  unfold maxLen at hl
  by_cases h0 : n < 0 ∨ (¬ n < 0 ∧ (4096 < n ∨ (¬ 4096 < n ∧ 16384 < m)))
  · obtain rfl : k = 2 := by
      rcases hk with ⟨_, h⟩ | ⟨h1, h2⟩
      · exact h
      · clear h2; omega
    clear hk h
    rcases h0 with h0 | ⟨h1, h0 | ⟨h2, h0⟩⟩
    all_goals
      go_enter Tryd.func24, Tryd.ntmps24
      go_wp2_with fail
      go_ret2
      exact ⟨Only.refl _ _, .inl ⟨by decide, rfl⟩⟩
  · obtain ⟨N, rfl⟩ : ∃ N : Nat, n = N := ⟨n.toNat, by omega⟩
    have b1 : ¬ 4096 < N := by omega
    have b2 : ¬ 16384 < m := by omega
    have HE := Lib.hid h
    have HK := Lib.hid hk
    clear h hk h0
    go_enter Tryd.func24, Tryd.ntmps24
    go_wp2_with fail
    go_loopw [21] (fun i wr => ∃ j : Nat, j ≤ m ∧ i = .int .i64 j ∧ Hid (∀ t, t < j → GoodE N u v t) ∧ Hid (Only [] w wr)) (fun i _ => m - (intOf i).toNat)
    case atStart => exact ⟨0, Nat.zero_le _, rfl, Lib.hid fun t ht => by omega, Lib.hid (Only.refl _ _)⟩
    case round =>
      obtain ⟨j, hj, rfl, HG, HO⟩ := hrel
      by_cases hlt : j < m
      · obtain ⟨b, off, rfl, hb, e0, e1, e2⟩ := (HE.out.only HO.out).cell hlt
        have HA := Lib.hid (fun hb => gcode_at HK.out ⟨by omega, by omega, by omega⟩ hlt HG.out hb)
        have HO2 := Lib.hid (HO.out.alloc (.cells #[.int .i64 (u j), .int .i64 (v j), .int .i64 (x j)] 49))
        obtain ⟨a, ha⟩ : ∃ a, u j = a := ⟨_, rfl⟩
        obtain ⟨d, hd⟩ : ∃ d, v j = d := ⟨_, rfl⟩
        have HI : Hid (GoodE N u v j ↔ (((0 ≤ a ∧ a < N) ∧ 0 ≤ d ∧ d < N) ∧ a ≠ d)) := Lib.hid (by unfold GoodE InE; rw [ha, hd])
        have HI2 : Hid (InE N u v j ↔ ((0 ≤ a ∧ a < N) ∧ 0 ≤ d ∧ d < N)) := Lib.hid (by unfold InE; rw [ha, hd])
        rw [ha] at e0 HO2
        rw [hd] at e1 HO2
        clear ha hd
        by_cases hin : (0 ≤ a ∧ a < N) ∧ 0 ≤ d ∧ d < N
        · obtain ⟨⟨q1, q2⟩, q3, q4⟩ := hin
          by_cases hne : a = d
          · obtain rfl : k = 9 := (HA.out (fun h => (HI.out.1 h).2 hne)).2 (HI2.out.2 ⟨⟨q1, q2⟩, q3, q4⟩)
            subst hne
            go_wp2_with fail
            go_ret2
            exact ⟨HO2.out, .inl ⟨by decide, rfl⟩⟩
          · have HN := Lib.hid (show ∀ t, t < j + 1 → GoodE N u v t from fun t ht => by
              by_cases e : t = j
              · rw [e]; exact HI.out.2 ⟨⟨⟨q1, q2⟩, q3, q4⟩, hne⟩
              · exact HG.out t (by omega))
            go_wp2_with fail
            go_roundw
            case rel => exact ⟨j + 1, by omega, by go_num, HN, HO2⟩
            case measure => simp [intOf]; omega
        · obtain rfl : k = 3 := (HA.out (fun h => hin (HI.out.1 h).1)).1 fun h => hin (HI2.out.1 h)
          have hc : a < 0 ∨ (¬ a < 0 ∧ ((N : Int) ≤ a ∨ (¬ (N : Int) ≤ a ∧ (d < 0 ∨ (¬ d < 0 ∧ (N : Int) ≤ d))))) := by omega
          clear hin
          rcases hc with h1 | ⟨h1, h2 | ⟨h2, h3 | ⟨h3, h4⟩⟩⟩
          all_goals
            go_wp2_with fail
            go_ret2
            exact ⟨HO2.out, .inl ⟨by decide, rfl⟩⟩
      · obtain rfl : j = m := by omega
        obtain rfl : k = 0 := by
          rcases HK.out with ⟨h1, _⟩ | ⟨_, ⟨i, hi, _, ⟨h1, _⟩ | ⟨_, h1, _⟩⟩ | ⟨_, h1⟩⟩
          · omega
          · exact absurd (HG.out i hi).1 h1
          · exact absurd h1 (HG.out i hi).2
          · exact h1
        have CC := Lib.hid (Clone_edges A j c u v x wr (HE.out.only HO.out) (by omega))
        go_wp2_with fail
        refine CC.out.mono ?_
        rintro e w1 ⟨A', c', rfl, hE, hO⟩
        have CB := Lib.hid (build_any A' N j c' u v x (fun i => (u i).toNat) (fun i => (v i).toNat) (fun i hi => by
          have := HG.out i hi
          unfold GoodE InE at this
          exact ⟨by omega, by omega, by omega, by omega⟩) w1 hE (by omega) (by omega))
        have HE1 := Lib.hid hE
        have HO1 := Lib.hid (HO.out.trans hO)
        clear hE hO CC
        go_wp2_with fail
        refine CB.out.mono ?_
        rintro e w2 ⟨G, S, L, rfl, fs, hB⟩
        have HB := Lib.hid hB
        clear hB CB
        go_wp2_with fail
        go_ret2
        refine ⟨HO1.out.trans HB.out.only, .inr ⟨rfl, G, S, L, A', c', fs, rfl, Lib.hid ⟨?_, HE1.out.only HB.out.only⟩⟩⟩
        rw [Int.toNat_natCast]
        exact ⟨HB.out.head, HB.out.row, HB.out.lst, HO1.out.trans HB.out.only⟩

end Go.Proofs.YtipgbbhgmoehfaaDoor

/-
  sweep: plain.
-/
namespace Go.Proofs.YtipgbbhgmoehfaaDoor
open Go.RowKit
set_option linter.unusedSimpArgs false
set_option linter.unusedSectionVars false

end Go.Proofs.YtipgbbhgmoehfaaDoor
