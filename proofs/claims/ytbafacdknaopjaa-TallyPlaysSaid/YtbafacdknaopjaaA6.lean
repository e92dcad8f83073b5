/-
  The contracts of detach and join.
-/
import Derived.Test.YtbafacdknaopjaaA5
namespace Go.Proofs.Ytbafacdknaopjaa
open Go.RowKit
set_option linter.unusedSimpArgs false

namespace T
/-- The first node of a tree (its block, its number, its count), and the rest. -/
def det : T → Nat × Int × Nat × T
  | leaf => (0, 0, 0, leaf)
  | node g leaf x t r => (g, x, t, r)
  | node g (node gk a y u b) x t r => ((det (node gk a y u b)).1, (det (node gk a y u b)).2.1, (det (node gk a y u b)).2.2.1, bal (node g (det (node gk a y u b)).2.2.2 x t r))
def join : T → T → T
  | leaf, b => b
  | a, leaf => a
  | a, b => bal (node b.det.1 a b.det.2.1 b.det.2.2.1 b.det.2.2.2)
theorem det_items (g : Nat) (l : T) (x : Int) (t : Nat) (r : T) : (node g l x t r).items = ((node g l x t r).det.2.1, (node g l x t r).det.2.2.1) :: (node g l x t r).det.2.2.2.items := by
  induction l generalizing g x t r with
  | leaf => rfl
  | node gk a y u b iha _ =>
    have h := iha gk y u b
    rw [show (node g (node gk a y u b) x t r).items = (node gk a y u b).items ++ (x, t) :: r.items from rfl, h]
    simp only [det, bal_items, items, List.cons_append]
theorem det_blocks (g : Nat) (l : T) (x : Int) (t : Nat) (r : T) : ((node g l x t r).det.1 :: (node g l x t r).det.2.2.2.blocks).Perm (node g l x t r).blocks := by
  induction l generalizing g x t r with
  | leaf => simp [det, blocks]
  | node gk a y u b iha _ =>
    have h := iha gk y u b
    simp only [det]
    refine ((bal_blocks _).cons _).trans ?_
    simp only [blocks] at h ⊢
    refine (List.Perm.swap _ _ _).trans (.cons g ?_)
    have := h.append_right r.blocks
    simpa using this
theorem join_items (a b : T) : (join a b).items = a.items ++ b.items := by
  cases a with
  | leaf => simp [join, items]
  | node g l x t r =>
    cases b with
    | leaf => simp [join, items]
    | node g2 l2 x2 t2 r2 =>
      simp only [join]
      rw [bal_items, det_items g2 l2 x2 t2 r2]
      rfl
theorem join_blocks (a b : T) : (join a b).blocks.Perm (a.blocks ++ b.blocks) := by
  cases a with
  | leaf => simp [join, blocks]
  | node g l x t r =>
    cases b with
    | leaf => simp [join, blocks]
    | node g2 l2 x2 t2 r2 =>
      simp only [join]
      refine (bal_blocks _).trans ?_
      refine List.Perm.trans ?_ ((det_blocks g2 l2 x2 t2 r2).append_left _)
      exact List.perm_middle.symm
end T

set_option maxRecDepth 100000 in
set_option maxHeartbeats 2000000 in
theorem detach_leaf (g t : Nat) (r : T) (x : Int) (w : World) (hg : (T.node g .leaf x t r).At w) :
    Calls Try.prog 184 #[.pointer (some ⟨g, 0, none⟩)] w fun e w' => e = .returned (.tuple #[.pointer (some ⟨g, 0, none⟩), r.ptr]) ∧ ∃ n, w' = w.drewN n := by
  obtain ⟨h1, _, _⟩ := hg
  have c0 := cell_of_heap (i := 0) h1 rfl
  have c1 := cell_of_heap (i := 1) h1 rfl
  clear h1
  replace c0 : w.cell? ⟨g, 0, none⟩ = some (.pointer none) := c0
  go_enter Try.func184, Try.ntmps184
  go_wp2
  go_quiet (fail)
  go_wp2
  go_ret2
  exact ⟨rfl, nq, rfl⟩

set_option maxRecDepth 100000 in
set_option maxHeartbeats 2000000 in
theorem detach_node (g t gk u : Nat) (a b r : T) (x y : Int) (w : World) (hg : (T.node g (.node gk a y u b) x t r).At w) (hnd : (T.node g (.node gk a y u b) x t r).blocks.Nodup)
    (hs : (T.node g (.node gk a y u b) x t r).sz ≤ 2 ^ 60) (hd : (T.node g (.node gk a y u b) x t r).ds ≤ 2 ^ 60)
    (f : Nat) (x0 : Int) (t0 : Nat) (rest : T) (hi : (T.node gk a y u b).items = (x0, t0) :: rest.items) (hb : (f :: rest.blocks).Perm (T.node gk a y u b).blocks)
    (ih : ∀ w : World, (T.node gk a y u b).At w → Calls Try.prog 184 #[.pointer (some ⟨gk, 0, none⟩)] w fun e w' => e = .returned (.tuple #[.pointer (some ⟨f, 0, none⟩), rest.ptr]) ∧
      (∃ l r s d h, w'.heap[f]? = some (.cells (T.cells l x0 t0 r s d h) 194 (0, 0))) ∧ rest.At w' ∧ Only (T.node gk a y u b).blocks w w') :
    Calls Try.prog 184 #[.pointer (some ⟨g, 0, none⟩)] w fun e w' => e = .returned (.tuple #[.pointer (some ⟨f, 0, none⟩), (T.bal (.node g rest x t r)).ptr]) ∧
      (∃ l r s d h, w'.heap[f]? = some (.cells (T.cells l x0 t0 r s d h) 194 (0, 0))) ∧ (T.bal (.node g rest x t r)).At w' ∧ Only (T.node g (.node gk a y u b) x t r).blocks w w' := by
  obtain ⟨h1, h2, h3⟩ := hg
  have hn := List.nodup_cons.1 hnd
  have hna := List.nodup_append.1 hn.2
  have hgl : g ∉ (T.node gk a y u b).blocks := fun hm => hn.1 (List.mem_append_left _ hm)
  have hgr : g ∉ r.blocks := fun hm => hn.1 (List.mem_append_right _ hm)
  have HPM := Lib.hid (show (f :: (T.node g rest x t r).blocks).Perm (T.node g (.node gk a y u b) x t r).blocks from by
    have := hb.append_right r.blocks
    simp only [T.blocks] at this ⊢
    exact (List.Perm.swap _ _ _).trans (.cons g this))
  have hfg : f ≠ g := fun e => hgl (e ▸ hb.mem_iff.1 List.mem_cons_self)
  have hgrest : g ∉ rest.blocks := fun hm => hgl (hb.mem_iff.1 (List.mem_cons_of_mem _ hm))
  have HND := Lib.hid hnd
  have HDJ := Lib.hid (show ∀ k, k ∈ r.blocks → k ∉ (T.node gk a y u b).blocks from fun k hk hm => hna.2.2 k hm k hk rfl)
  have HS := Lib.hid (show (T.node g rest x t r).sz ≤ 2 ^ 60 ∧ (T.node g rest x t r).ds ≤ 2 ^ 60 from by
    have e1 := T.sz_items (T.node gk a y u b)
    have e2 := T.ds_items (T.node gk a y u b)
    rw [hi] at e1 e2
    simp only [T.szL, List.length_cons, ← T.sz_items, ← T.ds_items] at e1 e2
    rw [T.sz, e1] at hs
    rw [T.ds, e2] at hd
    simp only [T.sz, T.ds]
    omega)
  have HG := Lib.hid h1
  have HL := Lib.hid h2
  have HR := Lib.hid h3
  have IH := Lib.hid ih
  have c0 := cell_of_heap (i := 0) h1 rfl
  have z0 := frozen_of_heap (i := 0) h1
  replace c0 : w.cell? ⟨g, 0, none⟩ = some (.pointer (some ⟨gk, 0, none⟩)) := c0
  clear h1 h2 h3 hn hna hb hi hs hd ih hnd
  go_enter Try.func184, Try.ntmps184
  go_wp2
  go_region_with (go_at_call 184; refine (IH.out _ (by exact HL.out.same fun _ _ => rfl)).mono ?_; rintro e w1 ⟨rfl, hF, hA1, hO1⟩; have HF := Lib.hid hF; have gG := (hO1.block g (heap_lt (show w.heap[g]? = _ from HG.out)) hgl).trans HG.out; have zc := cell_of_heap (i := 0) gG rfl; have zz := frozen_of_heap (i := 0) gG; clear hF)
  have HG2 := Lib.hid (set_heap (i := 0) rest.ptr gG)
  have HA2 := Lib.hid (T.At.set hA1 (i := 0) rest.ptr hgrest)
  have HR2 := Lib.hid ((((HR.out.drewN 1).only hO1 HDJ.out)).set (g := g) (i := 0) rest.ptr hgr)
  have HO := Lib.hid hO1
  clear zc zz gG hA1 hO1
  go_wp2_with fail
  refine (balance_any g t rest r x _ _ _ _ (by exact HG2.out) HA2.out HR2.out (List.nodup_cons.1 (HPM.out.nodup_iff.2 HND.out)).2 HS.out.1 HS.out.2).mono ?_
  rintro e w2 ⟨rfl, hA3, hO3⟩
  go_wp2
  go_ret2
  refine ⟨rfl, ?_, hA3, ((((Only.refl _ w).drewN 1).trans (HO.out.mono fun k hk => List.mem_cons_of_mem _ (List.mem_append_left _ hk))).setCell (by exact List.mem_cons_self) _).trans (hO3.mono fun k hk => HPM.out.mem_iff.1 (List.mem_cons_of_mem _ hk))⟩
  obtain ⟨l, r', s, d, h, hf⟩ := HF.out
  refine ⟨l, r', s, d, h, (hO3.block f (by rw [World.size_setCell]; exact heap_lt hf) ?_).trans (set_other (i := 0) _ hf hfg)⟩
  exact (List.nodup_cons.1 (HPM.out.nodup_iff.2 HND.out)).1

theorem detach_any (g t : Nat) (l r : T) (x : Int) (w : World) (hg : (T.node g l x t r).At w) (hnd : (T.node g l x t r).blocks.Nodup) (hs : (T.node g l x t r).sz ≤ 2 ^ 60) (hd : (T.node g l x t r).ds ≤ 2 ^ 60) :
    Calls Try.prog 184 #[.pointer (some ⟨g, 0, none⟩)] w fun e w' => e = .returned (.tuple #[.pointer (some ⟨(T.node g l x t r).det.1, 0, none⟩), (T.node g l x t r).det.2.2.2.ptr]) ∧
      (∃ a b s d h, w'.heap[(T.node g l x t r).det.1]? = some (.cells (T.cells a (T.node g l x t r).det.2.1 (T.node g l x t r).det.2.2.1 b s d h) 194 (0, 0))) ∧ (T.node g l x t r).det.2.2.2.At w' ∧ Only (T.node g l x t r).blocks w w' := by
  induction l generalizing g x t r w with
  | leaf =>
    refine (detach_leaf g t r x w hg).mono ?_
    rintro e w' ⟨rfl, n, rfl⟩
    exact ⟨rfl, ⟨_, _, _, _, _, hg.1⟩, hg.2.2.drewN n, (Only.refl _ _).drewN n⟩
  | node gk a y u b iha _ =>
    refine detach_node g t gk u a b r x y w hg hnd hs hd _ _ _ _ (T.det_items gk a y u b) (T.det_blocks gk a y u b) (fun w' h => iha gk u b y w' h (List.nodup_append.1 (List.nodup_cons.1 hnd).2).1 ?_ ?_)
    · simp only [T.sz] at hs ⊢; omega
    · simp only [T.ds] at hd ⊢; omega

set_option maxRecDepth 100000 in
set_option maxHeartbeats 2000000 in
theorem join_any (a b : T) (w : World) (ha : a.At w) (hb : b.At w) (hnd : (a.blocks ++ b.blocks).Nodup) (hs : a.sz + b.sz ≤ 2 ^ 60) (hd : a.ds + b.ds ≤ 2 ^ 60) :
    Calls Try.prog 165 #[a.ptr, b.ptr] w fun e w' => e = .returned (T.join a b).ptr ∧ (T.join a b).At w' ∧ Only (a.blocks ++ b.blocks) w w' := by
  cases a with
  | leaf =>
    show Calls Try.prog 165 #[.pointer none, b.ptr] w _
    go_enter Try.func165, Try.ntmps165
    go_wp2_with fail
    go_ret
    exact ⟨by simp [T.join], by simpa [T.join] using hb, Only.refl _ _⟩
  | node g l x t r =>
    cases b with
    | leaf =>
      show Calls Try.prog 165 #[.pointer (some ⟨g, 0, none⟩), .pointer none] w _
      have HA := Lib.hid ha
      clear ha
      go_enter Try.func165, Try.ntmps165
      go_wp2_with fail
      go_ret
      exact ⟨by simp [T.join, T.addr], by simpa [T.join] using HA.out, Only.refl _ _⟩
    | node g2 l2 x2 t2 r2 =>
      show Calls Try.prog 165 #[.pointer (some ⟨g, 0, none⟩), .pointer (some ⟨g2, 0, none⟩)] w _
      have CD := Lib.hid (detach_any g2 t2 l2 r2 x2 w hb (List.nodup_append.1 hnd).2.1 (by omega) (by omega))
      have HA := Lib.hid ha
      have HN := Lib.hid hnd
      clear ha hb hnd
      go_enter Try.func165, Try.ntmps165
      go_wp2_with fail
      refine CD.out.mono ?_
      rintro e w1 ⟨rfl, ⟨p, q, s, d, h, hf⟩, hA1, hO1⟩
      have c0 := cell_of_heap (i := 0) hf rfl
      have c1 := cell_of_heap (i := 1) hf rfl
      have z0 := frozen_of_heap (i := 0) hf
      have z1 := frozen_of_heap (i := 1) hf
      go_wp2_with fail
      have hn := List.nodup_append.1 HN.out
      have hdb := T.det_blocks g2 l2 x2 t2 r2
      have hdi := T.det_items g2 l2 x2 t2 r2
      have e1 := T.sz_items (T.node g2 l2 x2 t2 r2)
      have e2 := T.ds_items (T.node g2 l2 x2 t2 r2)
      rw [hdi] at e1 e2
      simp only [T.szL, List.length_cons, ← T.sz_items, ← T.ds_items] at e1 e2
      rw [e1] at hs
      rw [e2] at hd
      have hperm : (T.node (T.node g2 l2 x2 t2 r2).det.1 (T.node g l x t r) (T.node g2 l2 x2 t2 r2).det.2.1 (T.node g2 l2 x2 t2 r2).det.2.2.1 (T.node g2 l2 x2 t2 r2).det.2.2.2).blocks.Perm ((T.node g l x t r).blocks ++ (T.node g2 l2 x2 t2 r2).blocks) :=
        List.Perm.trans (List.perm_middle (l₁ := (T.node g l x t r).blocks)).symm (hdb.append_left _)
      have hjo := Lib.hid (show (T.node g l x t r).join (T.node g2 l2 x2 t2 r2) = T.bal (T.node (T.node g2 l2 x2 t2 r2).det.1 (T.node g l x t r) (T.node g2 l2 x2 t2 r2).det.2.1 (T.node g2 l2 x2 t2 r2).det.2.2.1 (T.node g2 l2 x2 t2 r2).det.2.2.2) from rfl)
      clear hdi e1 e2
      have hfb : (T.node g2 l2 x2 t2 r2).det.1 ∈ (T.node g2 l2 x2 t2 r2).blocks := hdb.mem_iff.1 List.mem_cons_self
      have hfr := (List.nodup_cons.1 (hdb.nodup_iff.2 hn.2.1)).1
      generalize (T.node g2 l2 x2 t2 r2).det.1 = f at *
      generalize (T.node g2 l2 x2 t2 r2).det.2.1 = x0 at *
      generalize (T.node g2 l2 x2 t2 r2).det.2.2.1 = t0 at *
      generalize (T.node g2 l2 x2 t2 r2).det.2.2.2 = rest at *
      have hfa : f ∉ (T.node g l x t r).blocks := fun hm => hn.2.2 f hm f hfb rfl
      have HA2 := ((HA.out.only hO1 (fun k hk hm => hn.2.2 k hk k hm rfl)).set (g := f) (i := 0) (.pointer (some ⟨g, 0, none⟩)) hfa).set (g := f) (i := 1) rest.ptr hfa
      refine (balance_any f t0 (T.node g l x t r) rest x0 s d h _ (set_heap (i := 1) rest.ptr (set_heap (i := 0) (.pointer (some ⟨g, 0, none⟩)) hf)) HA2 ((hA1.set (g := f) (i := 0) _ hfr).set (g := f) (i := 1) _ hfr) (hperm.nodup_iff.2 HN.out) (by simp only [T.sz] at hs ⊢; omega) (by simp only [T.ds] at hd ⊢; omega)).mono ?_
      rintro e w2 ⟨rfl, hA3, hO3⟩
      go_wp2
      go_ret
      rw [hjo.out]
      exact ⟨rfl, hA3, (((hO1.mono fun k hk => List.mem_append_right _ hk).setCell (List.mem_append_right _ hfb) _).setCell (List.mem_append_right _ hfb) _).trans (hO3.mono fun k hk => hperm.mem_iff.1 hk)⟩
end Go.Proofs.Ytbafacdknaopjaa
