import Derived.StillTailTactics
import Derived.Deep.LoopGhost
import Derived.LaidEqlPtr
import Derived.Test.YtipgbbhgmoehfaaYA
/-
  The contracts of detach and join.
-/
namespace Go.Proofs.Ytipgbbhgmoehfaa
open Go.RowKit
set_option linter.unusedSimpArgs false

namespace T
/-- The first node of a tree (its block, its number, its count), and the rest. -/
def det : T → Nat × Int × Nat × T
  | leaf => (0, 0, 0, leaf)
  | node g leaf x t r => (g, x, t, r)
  | node g (node gk a y u b) x t r => ((det (node gk a y u b)).1, (det (node gk a y u b)).2.1, (det (node gk a y u b)).2.2.1, bal (node g (det (node gk a y u b)).2.2.2 x t r))
def join : T → T → T
  | leaf, b => b
  | a, leaf => a
  | a, b => bal (node b.det.1 a b.det.2.1 b.det.2.2.1 b.det.2.2.2)
theorem det_items (g : Nat) (l : T) (x : Int) (t : Nat) (r : T) : (node g l x t r).items = ((node g l x t r).det.2.1, (node g l x t r).det.2.2.1) :: (node g l x t r).det.2.2.2.items := by
  induction l generalizing g x t r with
  | leaf => rfl
  | node gk a y u b iha _ =>
    have h := iha gk y u b
    rw [show (node g (node gk a y u b) x t r).items = (node gk a y u b).items ++ (x, t) :: r.items from rfl, h]
    simp only [det, bal_items, items, List.cons_append]
theorem det_blocks (g : Nat) (l : T) (x : Int) (t : Nat) (r : T) : ((node g l x t r).det.1 :: (node g l x t r).det.2.2.2.blocks).Perm (node g l x t r).blocks := by
  induction l generalizing g x t r with
  | leaf => simp [det, blocks]
  | node gk a y u b iha _ =>
    have h := iha gk y u b
    simp only [det]
    refine ((bal_blocks _).cons _).trans ?_
    simp only [blocks] at h ⊢
    refine (List.Perm.swap _ _ _).trans (.cons g ?_)
    have := h.append_right r.blocks
    simpa using this
theorem join_items (a b : T) : (join a b).items = a.items ++ b.items := by
  cases a with
  | leaf => simp [join, items]
  | node g l x t r =>
    cases b with
    | leaf => simp [join, items]
    | node g2 l2 x2 t2 r2 =>
      simp only [join]
      rw [bal_items, det_items g2 l2 x2 t2 r2]
      rfl
theorem join_blocks (a b : T) : (join a b).blocks.Perm (a.blocks ++ b.blocks) := by
  cases a with
  | leaf => simp [join, blocks]
  | node g l x t r =>
    cases b with
    | leaf => simp [join, blocks]
    | node g2 l2 x2 t2 r2 =>
      simp only [join]
      refine (bal_blocks _).trans ?_
      refine List.Perm.trans ?_ ((det_blocks g2 l2 x2 t2 r2).append_left _)
      exact List.perm_middle.symm
end T

set_option maxRecDepth 100000 in
set_option maxHeartbeats 2000000 in
theorem detach_leaf (g t : Nat) (r : T) (x : Int) (w : World) (hg : (T.node g .leaf x t r).At w) :
    Calls Try.prog 148 #[.pointer (some ⟨g, 0, none⟩)] w fun e w' => e = .returned (.tuple #[.pointer (some ⟨g, 0, none⟩), r.ptr]) ∧ ∃ n, w' = w.drewN n := by
  obtain ⟨h1, _, _⟩ := hg
  have c0 := cell_of_heap (i := 0) h1 rfl
  have c1 := cell_of_heap (i := 1) h1 rfl
  clear h1
  replace c0 : w.cell? ⟨g, 0, none⟩ = some (.pointer none) := c0
  go_enter Try.func148, Try.ntmps148
  go_wp2
  go_quiet (fail)
  go_wp2
  go_ret2
  exact ⟨rfl, nq, rfl⟩

set_option maxRecDepth 100000 in
set_option maxHeartbeats 2000000 in
theorem detach_node (g t gk u : Nat) (a b r : T) (x y : Int) (w : World) (hg : (T.node g (.node gk a y u b) x t r).At w) (hnd : (T.node g (.node gk a y u b) x t r).blocks.Nodup)
    (hs : (T.node g (.node gk a y u b) x t r).sz ≤ 2 ^ 60) (hd : (T.node g (.node gk a y u b) x t r).ds ≤ 2 ^ 60)
    (f : Nat) (x0 : Int) (t0 : Nat) (rest : T) (hi : (T.node gk a y u b).items = (x0, t0) :: rest.items) (hb : (f :: rest.blocks).Perm (T.node gk a y u b).blocks)
    (ih : ∀ w : World, (T.node gk a y u b).At w → Calls Try.prog 148 #[.pointer (some ⟨gk, 0, none⟩)] w fun e w' => e = .returned (.tuple #[.pointer (some ⟨f, 0, none⟩), rest.ptr]) ∧
      (∃ l r s d h, w'.heap[f]? = some (.cells (T.cells l x0 t0 r s d h) 189 (0, 0))) ∧ rest.At w' ∧ Only (T.node gk a y u b).blocks w w') :
    Calls Try.prog 148 #[.pointer (some ⟨g, 0, none⟩)] w fun e w' => e = .returned (.tuple #[.pointer (some ⟨f, 0, none⟩), (T.bal (.node g rest x t r)).ptr]) ∧
      (∃ l r s d h, w'.heap[f]? = some (.cells (T.cells l x0 t0 r s d h) 189 (0, 0))) ∧ (T.bal (.node g rest x t r)).At w' ∧ Only (T.node g (.node gk a y u b) x t r).blocks w w' := by
  obtain ⟨h1, h2, h3⟩ := hg
  have hn := List.nodup_cons.1 hnd
  have hna := List.nodup_append.1 hn.2
  have hgl : g ∉ (T.node gk a y u b).blocks := fun hm => hn.1 (List.mem_append_left _ hm)
  have hgr : g ∉ r.blocks := fun hm => hn.1 (List.mem_append_right _ hm)
  have HPM := Lib.hid (show (f :: (T.node g rest x t r).blocks).Perm (T.node g (.node gk a y u b) x t r).blocks from by
    have := hb.append_right r.blocks
    simp only [T.blocks] at this ⊢
    exact (List.Perm.swap _ _ _).trans (.cons g this))
  have hfg : f ≠ g := fun e => hgl (e ▸ hb.mem_iff.1 List.mem_cons_self)
  have hgrest : g ∉ rest.blocks := fun hm => hgl (hb.mem_iff.1 (List.mem_cons_of_mem _ hm))
  have HND := Lib.hid hnd
  have HDJ := Lib.hid (show ∀ k, k ∈ r.blocks → k ∉ (T.node gk a y u b).blocks from fun k hk hm => hna.2.2 k hm k hk rfl)
  have HS := Lib.hid (show (T.node g rest x t r).sz ≤ 2 ^ 60 ∧ (T.node g rest x t r).ds ≤ 2 ^ 60 from by
    have e1 := T.sz_items (T.node gk a y u b)
    have e2 := T.ds_items (T.node gk a y u b)
    rw [hi] at e1 e2
    simp only [T.szL, List.length_cons, ← T.sz_items, ← T.ds_items] at e1 e2
    rw [T.sz, e1] at hs
    rw [T.ds, e2] at hd
    simp only [T.sz, T.ds]
    omega)
  have HG := Lib.hid h1
  have HL := Lib.hid h2
  have HR := Lib.hid h3
  have IH := Lib.hid ih
  have c0 := cell_of_heap (i := 0) h1 rfl
  have z0 := frozen_of_heap (i := 0) h1
  replace c0 : w.cell? ⟨g, 0, none⟩ = some (.pointer (some ⟨gk, 0, none⟩)) := c0
  clear h1 h2 h3 hn hna hb hi hs hd ih hnd
  go_enter Try.func148, Try.ntmps148
  go_wp2
  go_region_with (go_at_call 148; refine (IH.out _ (by exact HL.out.same fun _ _ => rfl)).mono ?_; rintro e w1 ⟨rfl, hF, hA1, hO1⟩; have HF := Lib.hid hF; have gG := (hO1.block g (heap_lt (show w.heap[g]? = _ from HG.out)) hgl).trans HG.out; have zc := cell_of_heap (i := 0) gG rfl; have zz := frozen_of_heap (i := 0) gG; clear hF)
  have HG2 := Lib.hid (set_heap (i := 0) rest.ptr gG)
  have HA2 := Lib.hid (T.At.set hA1 (i := 0) rest.ptr hgrest)
  have HR2 := Lib.hid ((((HR.out.drewN 1).only hO1 HDJ.out)).set (g := g) (i := 0) rest.ptr hgr)
  have HO := Lib.hid hO1
  clear zc zz gG hA1 hO1
  go_wp2_with fail
  refine (balance_any g t rest r x _ _ _ _ (by exact HG2.out) HA2.out HR2.out (List.nodup_cons.1 (HPM.out.nodup_iff.2 HND.out)).2 HS.out.1 HS.out.2).mono ?_
  rintro e w2 ⟨rfl, hA3, hO3⟩
  go_wp2
  go_ret2
  refine ⟨rfl, ?_, hA3, ((((Only.refl _ w).drewN 1).trans (HO.out.mono fun k hk => List.mem_cons_of_mem _ (List.mem_append_left _ hk))).setCell (by exact List.mem_cons_self) _).trans (hO3.mono fun k hk => HPM.out.mem_iff.1 (List.mem_cons_of_mem _ hk))⟩
  obtain ⟨l, r', s, d, h, hf⟩ := HF.out
  refine ⟨l, r', s, d, h, (hO3.block f (by rw [World.size_setCell]; exact heap_lt hf) ?_).trans (set_other (i := 0) _ hf hfg)⟩
  exact (List.nodup_cons.1 (HPM.out.nodup_iff.2 HND.out)).1

theorem detach_any (g t : Nat) (l r : T) (x : Int) (w : World) (hg : (T.node g l x t r).At w) (hnd : (T.node g l x t r).blocks.Nodup) (hs : (T.node g l x t r).sz ≤ 2 ^ 60) (hd : (T.node g l x t r).ds ≤ 2 ^ 60) :
    Calls Try.prog 148 #[.pointer (some ⟨g, 0, none⟩)] w fun e w' => e = .returned (.tuple #[.pointer (some ⟨(T.node g l x t r).det.1, 0, none⟩), (T.node g l x t r).det.2.2.2.ptr]) ∧
      (∃ a b s d h, w'.heap[(T.node g l x t r).det.1]? = some (.cells (T.cells a (T.node g l x t r).det.2.1 (T.node g l x t r).det.2.2.1 b s d h) 189 (0, 0))) ∧ (T.node g l x t r).det.2.2.2.At w' ∧ Only (T.node g l x t r).blocks w w' := by
  induction l generalizing g x t r w with
  | leaf =>
    refine (detach_leaf g t r x w hg).mono ?_
    rintro e w' ⟨rfl, n, rfl⟩
    exact ⟨rfl, ⟨_, _, _, _, _, hg.1⟩, hg.2.2.drewN n, (Only.refl _ _).drewN n⟩
  | node gk a y u b iha _ =>
    refine detach_node g t gk u a b r x y w hg hnd hs hd _ _ _ _ (T.det_items gk a y u b) (T.det_blocks gk a y u b) (fun w' h => iha gk u b y w' h (List.nodup_append.1 (List.nodup_cons.1 hnd).2).1 ?_ ?_)
    · simp only [T.sz] at hs ⊢; omega
    · simp only [T.ds] at hd ⊢; omega

set_option maxRecDepth 100000 in
set_option maxHeartbeats 2000000 in
theorem join_any (a b : T) (w : World) (ha : a.At w) (hb : b.At w) (hnd : (a.blocks ++ b.blocks).Nodup) (hs : a.sz + b.sz ≤ 2 ^ 60) (hd : a.ds + b.ds ≤ 2 ^ 60) :
    Calls Try.prog 136 #[a.ptr, b.ptr] w fun e w' => e = .returned (T.join a b).ptr ∧ (T.join a b).At w' ∧ Only (a.blocks ++ b.blocks) w w' := by
  cases a with
  | leaf =>
    show Calls Try.prog 136 #[.pointer none, b.ptr] w _
    go_enter Try.func136, Try.ntmps136
    go_wp2_with fail
    go_ret
    exact ⟨by simp [T.join], by simpa [T.join] using hb, Only.refl _ _⟩
  | node g l x t r =>
    cases b with
    | leaf =>
      show Calls Try.prog 136 #[.pointer (some ⟨g, 0, none⟩), .pointer none] w _
      have HA := Lib.hid ha
      clear ha
      go_enter Try.func136, Try.ntmps136
      go_wp2_with fail
      go_ret
      exact ⟨by simp [T.join, T.addr], by simpa [T.join] using HA.out, Only.refl _ _⟩
    | node g2 l2 x2 t2 r2 =>
      show Calls Try.prog 136 #[.pointer (some ⟨g, 0, none⟩), .pointer (some ⟨g2, 0, none⟩)] w _
      have CD := Lib.hid (detach_any g2 t2 l2 r2 x2 w hb (List.nodup_append.1 hnd).2.1 (by omega) (by omega))
      have HA := Lib.hid ha
      have HN := Lib.hid hnd
      clear ha hb hnd
      go_enter Try.func136, Try.ntmps136
      go_wp2_with fail
      refine CD.out.mono ?_
      rintro e w1 ⟨rfl, ⟨p, q, s, d, h, hf⟩, hA1, hO1⟩
      have c0 := cell_of_heap (i := 0) hf rfl
      have c1 := cell_of_heap (i := 1) hf rfl
      have z0 := frozen_of_heap (i := 0) hf
      have z1 := frozen_of_heap (i := 1) hf
      go_wp2_with fail
      have hn := List.nodup_append.1 HN.out
      have hdb := T.det_blocks g2 l2 x2 t2 r2
      have hdi := T.det_items g2 l2 x2 t2 r2
      have e1 := T.sz_items (T.node g2 l2 x2 t2 r2)
      have e2 := T.ds_items (T.node g2 l2 x2 t2 r2)
      rw [hdi] at e1 e2
      simp only [T.szL, List.length_cons, ← T.sz_items, ← T.ds_items] at e1 e2
      rw [e1] at hs
      rw [e2] at hd
      have hperm : (T.node (T.node g2 l2 x2 t2 r2).det.1 (T.node g l x t r) (T.node g2 l2 x2 t2 r2).det.2.1 (T.node g2 l2 x2 t2 r2).det.2.2.1 (T.node g2 l2 x2 t2 r2).det.2.2.2).blocks.Perm ((T.node g l x t r).blocks ++ (T.node g2 l2 x2 t2 r2).blocks) :=
        List.Perm.trans (List.perm_middle (l₁ := (T.node g l x t r).blocks)).symm (hdb.append_left _)
      have hjo := Lib.hid (show (T.node g l x t r).join (T.node g2 l2 x2 t2 r2) = T.bal (T.node (T.node g2 l2 x2 t2 r2).det.1 (T.node g l x t r) (T.node g2 l2 x2 t2 r2).det.2.1 (T.node g2 l2 x2 t2 r2).det.2.2.1 (T.node g2 l2 x2 t2 r2).det.2.2.2) from rfl)
      clear hdi e1 e2
      have hfb : (T.node g2 l2 x2 t2 r2).det.1 ∈ (T.node g2 l2 x2 t2 r2).blocks := hdb.mem_iff.1 List.mem_cons_self
      have hfr := (List.nodup_cons.1 (hdb.nodup_iff.2 hn.2.1)).1
      generalize (T.node g2 l2 x2 t2 r2).det.1 = f at *
      generalize (T.node g2 l2 x2 t2 r2).det.2.1 = x0 at *
      generalize (T.node g2 l2 x2 t2 r2).det.2.2.1 = t0 at *
      generalize (T.node g2 l2 x2 t2 r2).det.2.2.2 = rest at *
      have hfa : f ∉ (T.node g l x t r).blocks := fun hm => hn.2.2 f hm f hfb rfl
      have HA2 := ((HA.out.only hO1 (fun k hk hm => hn.2.2 k hk k hm rfl)).set (g := f) (i := 0) (.pointer (some ⟨g, 0, none⟩)) hfa).set (g := f) (i := 1) rest.ptr hfa
      refine (balance_any f t0 (T.node g l x t r) rest x0 s d h _ (set_heap (i := 1) rest.ptr (set_heap (i := 0) (.pointer (some ⟨g, 0, none⟩)) hf)) HA2 ((hA1.set (g := f) (i := 0) _ hfr).set (g := f) (i := 1) _ hfr) (hperm.nodup_iff.2 HN.out) (by simp only [T.sz] at hs ⊢; omega) (by simp only [T.ds] at hd ⊢; omega)).mono ?_
      rintro e w2 ⟨rfl, hA3, hO3⟩
      go_wp2
      go_ret
      rw [hjo.out]
      exact ⟨rfl, hA3, (((hO1.mono fun k hk => List.mem_append_right _ hk).setCell (List.mem_append_right _ hfb) _).setCell (List.mem_append_right _ hfb) _).trans (hO3.mono fun k hk => hperm.mem_iff.1 hk)⟩

end Go.Proofs.Ytipgbbhgmoehfaa

/-
  The contract of update.
-/
namespace Go.Proofs.Ytipgbbhgmoehfaa
open Go.RowKit
set_option linter.unusedSimpArgs false

namespace T
def cnt (x : Int) : T → Nat
  | leaf => 0
  | node _ l y t r => if x < y then l.cnt x else if y < x then r.cnt x else t
def upd (N : Nat) (x : Int) (f : Nat → Nat) : T → T
  | leaf => if f 0 = 0 then leaf else node N leaf x (f 0) leaf
  | node g l y t r => if x < y then bal (node g (upd N x f l) y t r) else if y < x then bal (node g l y t (upd N x f r)) else if f t = 0 then join l r else bal (node g l y (f t) r)
theorem upd_sz (N : Nat) (x : Int) (f : Nat → Nat) (t : T) : (upd N x f t).sz ≤ t.sz + f (t.cnt x) := by
  induction t with
  | leaf => simp only [upd]; split <;> simp_all [sz, cnt]
  | node g l y t r ihl ihr =>
    simp only [upd, cnt]
    split
    · rw [sz_of (bal_items _)]; simp only [sz]; omega
    · split
      · rw [sz_of (bal_items _)]; simp only [sz]; omega
      · split
        · rw [sz_items, join_items, szL_append, ← sz_items, ← sz_items]; simp only [sz]; omega
        · rw [sz_of (bal_items _)]; simp only [sz]; omega
theorem upd_ds (N : Nat) (x : Int) (f : Nat → Nat) (t : T) : (upd N x f t).ds ≤ t.ds + 1 := by
  induction t with
  | leaf => simp only [upd]; split <;> simp_all [ds]
  | node g l y t r ihl ihr =>
    simp only [upd]
    split
    · rw [ds_of (bal_items _)]; simp only [ds]; omega
    · split
      · rw [ds_of (bal_items _)]; simp only [ds]; omega
      · split
        · rw [ds_items, join_items, List.length_append, ← ds_items, ← ds_items]; simp only [ds]; omega
        · rw [ds_of (bal_items _)]; simp only [ds]; omega
theorem upd_blocks (N : Nat) (x : Int) (f : Nat → Nat) (t : T) : ∃ rest, ((upd N x f t).blocks ++ rest).Perm (N :: t.blocks) := by
  induction t with
  | leaf =>
    simp only [upd]
    split
    · exact ⟨[N], .refl _⟩
    · exact ⟨[], .refl _⟩
  | node g l y t r ihl ihr =>
    obtain ⟨a, ha⟩ := ihl
    obtain ⟨b, hb⟩ := ihr
    simp only [upd]
    split
    · refine ⟨a, ((bal_blocks _).append_right _).trans ?_⟩
      rw [List.perm_iff_count] at ha ⊢
      intro k
      have := ha k
      simp only [blocks, List.count_append, List.count_cons, List.cons_append] at this ⊢
      omega
    · split
      · refine ⟨b, ((bal_blocks _).append_right _).trans ?_⟩
        rw [List.perm_iff_count] at hb ⊢
        intro k
        have := hb k
        simp only [blocks, List.count_append, List.count_cons, List.cons_append] at this ⊢
        omega
      · split
        · refine ⟨[N, g], ((join_blocks _ _).append_right _).trans ?_⟩
          rw [List.perm_iff_count]
          intro k
          simp only [blocks, List.count_append, List.count_cons, List.cons_append, List.count_nil]
          omega
        · refine ⟨[N], ((bal_blocks _).append_right _).trans ?_⟩
          rw [List.perm_iff_count]
          intro k
          simp only [blocks, List.count_append, List.count_cons, List.cons_append, List.count_nil]
          omega
theorem upd_mem {N : Nat} {x : Int} {f : Nat → Nat} {t : T} {k : Nat} (h : k ∈ (upd N x f t).blocks) : k = N ∨ k ∈ t.blocks := by
  obtain ⟨a, ha⟩ := upd_blocks N x f t
  exact List.mem_cons.1 (ha.mem_iff.1 (List.mem_append_left _ h))
theorem upd_nodup {N : Nat} {x : Int} {f : Nat → Nat} {t : T} (h : t.blocks.Nodup) (hN : N ∉ t.blocks) : (upd N x f t).blocks.Nodup := by
  obtain ⟨a, ha⟩ := upd_blocks N x f t
  exact (List.nodup_append.1 (ha.nodup_iff.2 (List.nodup_cons.2 ⟨hN, h⟩))).1
end T

/-- A function value enters its function. -/
def Goes (K : Nat) : Prop := ∀ (args : Array Value) (w : World), (callFunc K args).run Try.prog w = .ok (.enter K args) w
/-- What a closure over one box makes of a count, in the worlds that are like a given one. -/
def Makes (K Bx a b : Nat) (w : World) : Prop := ∀ w', w'.cell? ⟨Bx, 0, none⟩ = w.cell? ⟨Bx, 0, none⟩ → Calls Try.prog K #[.int .i64 a, .pointer (some ⟨Bx, 0, none⟩)] w' fun e w'' => e = .returned (.int .i64 b) ∧ w'' = w'
abbrev clo (K Bx : Nat) : Value := .func (.func K) #[] #[.pointer (some ⟨Bx, 0, none⟩)]

set_option maxRecDepth 100000 in
set_option maxHeartbeats 2000000 in
theorem update_leaf0 (x : Int) (K Bx : Nat) (w : World) (hK : Goes K) (hf : Makes K Bx 0 0 w) :
    Calls Try.prog 115 #[.pointer none, .int .i64 x, clo K Bx] w fun e w' => e = .returned (.pointer none) ∧ w' = w := by
  have HF := Lib.hid (hf w rfl)
  unfold Goes at hK
  clear hf
  go_enter Try.func115, Try.ntmps115
  go_wp2_with fail
  refine HF.out.mono ?_
  rintro e w' ⟨rfl, rfl⟩
  go_wp2_with fail
  go_ret
  exact ⟨rfl, rfl⟩

theorem Only.to {gs hs : List Nat} {a b c : World} (h : Only gs a b) (k : Only hs b c) (hsub : ∀ i, i ∈ hs → i < a.heap.size → i ∈ gs) : Only gs a c :=
  ⟨k.os.trans h.os, k.tape.trans h.tape, k.output.trans h.output, Nat.le_trans h.size k.size, fun i hi hn => (k.block i (Nat.lt_of_lt_of_le hi h.size) fun hm => hn (hsub i hm hi)).trans (h.block i hi hn)⟩

set_option maxRecDepth 100000 in
set_option maxHeartbeats 2000000 in
theorem update_leaf1 (x : Int) (K Bx b : Nat) (w : World) (hK : Goes K) (hb : 0 < b) (hb2 : b ≤ 2 ^ 60) (hf : Makes K Bx 0 b w) :
    Calls Try.prog 115 #[.pointer none, .int .i64 x, clo K Bx] w fun e w' => e = .returned (T.node w.heap.size .leaf x b .leaf).ptr ∧ (T.node w.heap.size .leaf x b .leaf).At w' ∧ Only [] w w' := by
  have HF := Lib.hid (hf w rfl)
  unfold Goes at hK
  clear hf
  have q : ((b : Int) == 0) = false := by simp; omega
  go_enter Try.func115, Try.ntmps115
  go_wp2_with fail
  refine HF.out.mono ?_
  rintro e w' ⟨rfl, rfl⟩
  go_wp2_with fail
  have hA : (w'.alloc (.cells (T.cells .leaf x b .leaf 0 0 0) 189 (0, 0))).heap[w'.heap.size]? = some (.cells (T.cells .leaf x b .leaf 0 0 0) 189 (0, 0)) := heap_alloc_new _ _
  refine (refresh_any w'.heap.size b .leaf .leaf x 0 0 0 _ (by exact hA) trivial trivial (by simp [T.blocks]) (by simp [T.blocks]) (by simp only [T.sz]; omega) (by simp [T.ds]) (by simp [T.ht])).mono ?_
  rintro e w1 ⟨⟨v, rfl⟩, hg1, hO1⟩
  go_wp2
  go_ret
  refine ⟨rfl, ⟨hg1, trivial, trivial⟩, hO1.os, hO1.tape, hO1.output, Nat.le_trans (by rw [World.size_alloc]; omega) hO1.size, fun k hk _ => ?_⟩
  exact (hO1.block k (by rw [World.size_alloc]; omega) (by simp; omega)).trans (heap_alloc_old _ _ hk)

theorem Makes.same {K Bx a b : Nat} {w w' : World} (h : Makes K Bx a b w) (he : w'.cell? ⟨Bx, 0, none⟩ = w.cell? ⟨Bx, 0, none⟩) : Makes K Bx a b w' := fun w2 h2 => h w2 (h2.trans he)

/-- What update promises of one tree. -/
def UpdOk (x : Int) (f : Nat → Nat) (K Bx : Nat) (t : T) : Prop := ∀ w : World, t.At w → Makes K Bx (t.cnt x) (f (t.cnt x)) w →
  Calls Try.prog 115 #[t.ptr, .int .i64 x, clo K Bx] w fun e w' => e = .returned (T.upd w.heap.size x f t).ptr ∧ (T.upd w.heap.size x f t).At w' ∧ Only t.blocks w w'

set_option maxRecDepth 100000 in
set_option maxHeartbeats 2000000 in
theorem update_lt (x y : Int) (f : Nat → Nat) (K Bx g u : Nat) (l r : T) (w : World) (hg : (T.node g l y u r).At w) (hnd : (T.node g l y u r).blocks.Nodup) (hxy : x < y)
    (hs : l.sz + f (l.cnt x) + u + r.sz ≤ 2 ^ 60) (hd : (T.node g l y u r).ds + 1 ≤ 2 ^ 60) (hm : Makes K Bx (l.cnt x) (f (l.cnt x)) w) (ih : UpdOk x f K Bx l) :
    Calls Try.prog 115 #[.pointer (some ⟨g, 0, none⟩), .int .i64 x, clo K Bx] w fun e w' => e = .returned (T.bal (.node g (T.upd w.heap.size x f l) y u r)).ptr ∧ (T.bal (.node g (T.upd w.heap.size x f l) y u r)).At w' ∧ Only (T.node g l y u r).blocks w w' := by
  obtain ⟨h1, h2, h3⟩ := hg
  have hgw := heap_lt h1
  have hn := List.nodup_cons.1 hnd
  have hna := List.nodup_append.1 hn.2
  have hgl : g ∉ l.blocks := fun hm => hn.1 (List.mem_append_left _ hm)
  have hgr : g ∉ r.blocks := fun hm => hn.1 (List.mem_append_right _ hm)
  have hNl : w.heap.size ∉ l.blocks := fun hm => Nat.lt_irrefl _ (h2.lt _ hm)
  have hNr : w.heap.size ∉ r.blocks := fun hm => Nat.lt_irrefl _ (h3.lt _ hm)
  have hgu : g ∉ (T.upd w.heap.size x f l).blocks := fun hm => (T.upd_mem hm).elim (fun e => by omega) hgl
  have HND := Lib.hid (show (T.node g (T.upd w.heap.size x f l) y u r).blocks.Nodup from by
    refine List.nodup_cons.2 ⟨fun hm => (List.mem_append.1 hm).elim hgu hgr, List.nodup_append.2 ⟨T.upd_nodup hna.1 hNl, hna.2.1, ?_⟩⟩
    rintro a ha b hb rfl
    exact (T.upd_mem ha).elim (fun e => hNr (e ▸ hb)) fun h => hna.2.2 a h a hb rfl)
  have HDJ := Lib.hid (show ∀ k, k ∈ r.blocks → k ∉ l.blocks from fun k hk hm => hna.2.2 k hm k hk rfl)
  have HS := Lib.hid (show (T.node g (T.upd w.heap.size x f l) y u r).sz ≤ 2 ^ 60 ∧ (T.node g (T.upd w.heap.size x f l) y u r).ds ≤ 2 ^ 60 from by
    have e1 := T.upd_sz w.heap.size x f l
    have e2 := T.upd_ds w.heap.size x f l
    simp only [T.sz, T.ds] at hd ⊢
    omega)
  have HG := Lib.hid h1
  have HL := Lib.hid h2
  have HR := Lib.hid h3
  have IH := Lib.hid (fun W h1 h2 => ih W h1 h2)
  have HM := Lib.hid hm
  have HLT : ∀ k, k ∈ r.blocks → k < w.heap.size := h3.lt
  have HLR := Lib.hid HLT
  have c0 := cell_of_heap (i := 0) h1 rfl
  have c2 := cell_of_heap (i := 2) h1 rfl
  have z0 := frozen_of_heap (i := 0) h1
  replace c0 : w.cell? ⟨g, 0, none⟩ = some l.ptr := c0
  replace c2 : w.cell? ⟨g, 2, none⟩ = some (.int .i64 y) := c2
  clear h1 h2 h3 hn hna hs hd ih hnd hm HLT hNl hNr
  go_enter Try.func115, Try.ntmps115
  go_wp2_with fail
  go_region_with (go_at_call 115; refine (IH.out _ (by exact HL.out.same fun _ _ => rfl) (by exact HM.out.same rfl)).mono ?_; rintro e w1 ⟨rfl, hA1, hO1⟩; have gG := (hO1.block g (heap_lt (show w.heap[g]? = _ from HG.out)) hgl).trans HG.out; have zc := cell_of_heap (i := 0) gG rfl; have zz := frozen_of_heap (i := 0) gG)
  have HG2 := Lib.hid (set_heap (i := 0) (T.upd w.heap.size x f l).ptr gG)
  have HA2 := Lib.hid (T.At.set hA1 (i := 0) (T.upd w.heap.size x f l).ptr hgu)
  have HR2 := Lib.hid ((((HR.out.drewN 1).only hO1 HDJ.out)).set (g := g) (i := 0) (T.upd w.heap.size x f l).ptr hgr)
  have HO := Lib.hid hO1
  clear zc zz gG hA1 hO1
  go_wp2_with fail
  refine (balance_any g u (T.upd w.heap.size x f l) r y _ _ _ _ (by exact HG2.out) HA2.out HR2.out HND.out HS.out.1 HS.out.2).mono ?_
  rintro e w2 ⟨rfl, hA3, hO3⟩
  go_wp2
  go_ret
  refine ⟨rfl, hA3, ?_⟩
  have hO4 := (((Only.refl (T.node g l y u r).blocks w).drewN 1).trans (HO.out.mono fun k hk => List.mem_cons_of_mem _ (List.mem_append_left _ hk))).setCell (i := 0) (by exact List.mem_cons_self) (T.upd w.heap.size x f l).ptr
  refine hO4.to hO3 (fun k hk hlt => ?_)
  rcases List.mem_cons.1 hk with rfl | hk
  · exact List.mem_cons_self
  · rcases List.mem_append.1 hk with hk | hk
    · exact (T.upd_mem hk).elim (fun e => by omega) fun h => List.mem_cons_of_mem _ (List.mem_append_left _ h)
    · exact List.mem_cons_of_mem _ (List.mem_append_right _ hk)

set_option maxRecDepth 100000 in
set_option maxHeartbeats 2000000 in
theorem update_gt (x y : Int) (f : Nat → Nat) (K Bx g u : Nat) (l r : T) (w : World) (hg : (T.node g l y u r).At w) (hnd : (T.node g l y u r).blocks.Nodup) (hxy : y < x)
    (hs : r.sz + f (r.cnt x) + u + l.sz ≤ 2 ^ 60) (hd : (T.node g l y u r).ds + 1 ≤ 2 ^ 60) (hm : Makes K Bx (r.cnt x) (f (r.cnt x)) w) (ih : UpdOk x f K Bx r) :
    Calls Try.prog 115 #[.pointer (some ⟨g, 0, none⟩), .int .i64 x, clo K Bx] w fun e w' => e = .returned (T.bal (.node g l y u (T.upd w.heap.size x f r))).ptr ∧ (T.bal (.node g l y u (T.upd w.heap.size x f r))).At w' ∧ Only (T.node g l y u r).blocks w w' := by
  obtain ⟨h1, h2, h3⟩ := hg
  have hgw := heap_lt h1
  have hn := List.nodup_cons.1 hnd
  have hna := List.nodup_append.1 hn.2
  have hgl : g ∉ l.blocks := fun hm => hn.1 (List.mem_append_left _ hm)
  have hgr : g ∉ r.blocks := fun hm => hn.1 (List.mem_append_right _ hm)
  have hNl : w.heap.size ∉ l.blocks := fun hm => Nat.lt_irrefl _ (h2.lt _ hm)
  have hNr : w.heap.size ∉ r.blocks := fun hm => Nat.lt_irrefl _ (h3.lt _ hm)
  have hgu : g ∉ (T.upd w.heap.size x f r).blocks := fun hm => (T.upd_mem hm).elim (fun e => by omega) hgr
  have HND := Lib.hid (show (T.node g l y u (T.upd w.heap.size x f r)).blocks.Nodup from by
    refine List.nodup_cons.2 ⟨fun hm => (List.mem_append.1 hm).elim hgl hgu, List.nodup_append.2 ⟨hna.1, T.upd_nodup hna.2.1 hNr, ?_⟩⟩
    rintro a ha b hb rfl
    exact (T.upd_mem hb).elim (fun e => hNl (e ▸ ha)) fun h => hna.2.2 a ha a h rfl)
  have HDJ := Lib.hid (show ∀ k, k ∈ l.blocks → k ∉ r.blocks from fun k hk hm => hna.2.2 k hk k hm rfl)
  have HS := Lib.hid (show (T.node g l y u (T.upd w.heap.size x f r)).sz ≤ 2 ^ 60 ∧ (T.node g l y u (T.upd w.heap.size x f r)).ds ≤ 2 ^ 60 from by
    have e1 := T.upd_sz w.heap.size x f r
    have e2 := T.upd_ds w.heap.size x f r
    simp only [T.sz, T.ds] at hd ⊢
    omega)
  have HG := Lib.hid h1
  have HL := Lib.hid h2
  have HR := Lib.hid h3
  have IH := Lib.hid (fun W h1 h2 => ih W h1 h2)
  have HM := Lib.hid hm
  have HLT : ∀ k, k ∈ r.blocks → k < w.heap.size := h3.lt
  have HLR := Lib.hid HLT
  have c0 := cell_of_heap (i := 1) h1 rfl
  have c2 := cell_of_heap (i := 2) h1 rfl
  have z0 := frozen_of_heap (i := 1) h1
  replace c0 : w.cell? ⟨g, 1, none⟩ = some r.ptr := c0
  replace c2 : w.cell? ⟨g, 2, none⟩ = some (.int .i64 y) := c2
  clear h1 h2 h3 hn hna hs hd ih hnd hm HLT hNl hNr
  go_enter Try.func115, Try.ntmps115
  go_wp2_with fail
  go_region_with (go_at_call 115; refine (IH.out _ (by exact HR.out.same fun _ _ => rfl) (by exact HM.out.same rfl)).mono ?_; rintro e w1 ⟨rfl, hA1, hO1⟩; have gG := (hO1.block g (heap_lt (show w.heap[g]? = _ from HG.out)) hgr).trans HG.out; have zc := cell_of_heap (i := 1) gG rfl; have zz := frozen_of_heap (i := 1) gG)
  have HG2 := Lib.hid (set_heap (i := 1) (T.upd w.heap.size x f r).ptr gG)
  have HA2 := Lib.hid (T.At.set hA1 (i := 1) (T.upd w.heap.size x f r).ptr hgu)
  have HR2 := Lib.hid ((((HL.out.drewN 1).only hO1 HDJ.out)).set (g := g) (i := 1) (T.upd w.heap.size x f r).ptr hgl)
  have HO := Lib.hid hO1
  clear zc zz gG hA1 hO1
  go_wp2_with fail
  refine (balance_any g u l (T.upd w.heap.size x f r) y _ _ _ _ (by exact HG2.out) HR2.out HA2.out HND.out HS.out.1 HS.out.2).mono ?_
  rintro e w2 ⟨rfl, hA3, hO3⟩
  go_wp2
  go_ret
  refine ⟨rfl, hA3, ?_⟩
  have hO4 := (((Only.refl (T.node g l y u r).blocks w).drewN 1).trans (HO.out.mono fun k hk => List.mem_cons_of_mem _ (List.mem_append_right _ hk))).setCell (i := 1) (by exact List.mem_cons_self) (T.upd w.heap.size x f r).ptr
  refine hO4.to hO3 (fun k hk hlt => ?_)
  rcases List.mem_cons.1 hk with rfl | hk
  · exact List.mem_cons_self
  · rcases List.mem_append.1 hk with hk | hk
    · exact List.mem_cons_of_mem _ (List.mem_append_left _ hk)
    · exact (T.upd_mem hk).elim (fun e => by omega) fun h => List.mem_cons_of_mem _ (List.mem_append_right _ h)

theorem set_times {W : World} {g u : Nat} {l r : T} {x s d h : Int} (hg : W.heap[g]? = some (.cells (T.cells l x u r s d h) 189 (0, 0))) (b : Nat) :
    (W.setCell ⟨g, 3, none⟩ (.int .i64 b)).heap[g]? = some (.cells (T.cells l x b r s d h) 189 (0, 0)) := set_heap (i := 3) _ hg

set_option maxRecDepth 100000 in
set_option maxHeartbeats 2000000 in
theorem update_eq1 (x : Int) (K Bx g u b : Nat) (l r : T) (w : World) (hK : Goes K) (hg : (T.node g l x u r).At w) (hnd : (T.node g l x u r).blocks.Nodup) (hb : 0 < b)
    (hs : (T.node g l x b r).sz ≤ 2 ^ 60) (hd : (T.node g l x u r).ds ≤ 2 ^ 60) (hm : Makes K Bx u b w) :
    Calls Try.prog 115 #[.pointer (some ⟨g, 0, none⟩), .int .i64 x, clo K Bx] w fun e w' => e = .returned (T.bal (.node g l x b r)).ptr ∧ (T.bal (.node g l x b r)).At w' ∧ Only (T.node g l x u r).blocks w w' := by
  obtain ⟨h1, h2, h3⟩ := hg
  have hn := List.nodup_cons.1 hnd
  have hgl : g ∉ l.blocks := fun hm => hn.1 (List.mem_append_left _ hm)
  have hgr : g ∉ r.blocks := fun hm => hn.1 (List.mem_append_right _ hm)
  have HN := Lib.hid hnd
  have HG := Lib.hid h1
  have HL := Lib.hid h2
  have HR := Lib.hid h3
  have HM := Lib.hid (hm w rfl)
  have c3 := cell_of_heap (i := 3) h1 rfl
  have c2 := cell_of_heap (i := 2) h1 rfl
  have z3 := frozen_of_heap (i := 3) h1
  replace c3 : w.cell? ⟨g, 3, none⟩ = some (.int .i64 u) := c3
  replace c2 : w.cell? ⟨g, 2, none⟩ = some (.int .i64 x) := c2
  have q : ((b : Int) == 0) = false := by simp; omega
  unfold Goes at hK
  clear h1 h2 h3 hn hnd hm
  go_enter Try.func115, Try.ntmps115
  go_wp2_with fail
  refine HM.out.mono ?_
  rintro e w1 ⟨rfl, rfl⟩
  have HG2 := Lib.hid (set_times HG.out b)
  have HL2 := Lib.hid (HL.out.set (i := 3) (.int .i64 b) hgl)
  have HR2 := Lib.hid (HR.out.set (i := 3) (.int .i64 b) hgr)
  go_wp2_with fail
  refine (balance_any g b l r x _ _ _ _ (by exact HG2.out) HL2.out HR2.out HN.out hs (by simpa [T.ds] using hd)).mono ?_
  rintro e w2 ⟨rfl, hA3, hO3⟩
  go_wp2
  go_ret
  exact ⟨rfl, hA3, ((Only.refl _ _).setCell (i := 3) (by exact List.mem_cons_self) _).trans hO3⟩

set_option maxRecDepth 100000 in
set_option maxHeartbeats 2000000 in
theorem update_eq0 (x : Int) (K Bx g u : Nat) (l r : T) (w : World) (hK : Goes K) (hg : (T.node g l x u r).At w) (hnd : (T.node g l x u r).blocks.Nodup)
    (hs : (T.node g l x u r).sz ≤ 2 ^ 60) (hd : (T.node g l x u r).ds ≤ 2 ^ 60) (hm : Makes K Bx u 0 w) :
    Calls Try.prog 115 #[.pointer (some ⟨g, 0, none⟩), .int .i64 x, clo K Bx] w fun e w' => e = .returned (T.join l r).ptr ∧ (T.join l r).At w' ∧ Only (T.node g l x u r).blocks w w' := by
  obtain ⟨h1, h2, h3⟩ := hg
  have hn := List.nodup_cons.1 hnd
  have hgl : g ∉ l.blocks := fun hm => hn.1 (List.mem_append_left _ hm)
  have hgr : g ∉ r.blocks := fun hm => hn.1 (List.mem_append_right _ hm)
  have HN := Lib.hid hn.2
  have HG := Lib.hid h1
  have HL := Lib.hid h2
  have HR := Lib.hid h3
  have HM := Lib.hid (hm w rfl)
  have c0 := cell_of_heap (i := 0) h1 rfl
  have c1 := cell_of_heap (i := 1) h1 rfl
  have c3 := cell_of_heap (i := 3) h1 rfl
  have c2 := cell_of_heap (i := 2) h1 rfl
  have z3 := frozen_of_heap (i := 3) h1
  replace c0 : w.cell? ⟨g, 0, none⟩ = some l.ptr := c0
  replace c1 : w.cell? ⟨g, 1, none⟩ = some r.ptr := c1
  replace c3 : w.cell? ⟨g, 3, none⟩ = some (.int .i64 u) := c3
  replace c2 : w.cell? ⟨g, 2, none⟩ = some (.int .i64 x) := c2
  unfold Goes at hK
  clear h1 h2 h3 hn hnd hm
  go_enter Try.func115, Try.ntmps115
  go_wp2_with fail
  refine HM.out.mono ?_
  rintro e w1 ⟨rfl, rfl⟩
  have HL2 := Lib.hid (HL.out.set (i := 3) (.int .i64 (0 : Nat)) hgl)
  have HR2 := Lib.hid (HR.out.set (i := 3) (.int .i64 (0 : Nat)) hgr)
  go_wp2_with fail
  have d0 : (w1.setCell ⟨g, 3, none⟩ (.int .i64 0)).cell? ⟨g, 0, none⟩ = some l.ptr := by rw [World.cell?_setCell_other]; exact c0; simp
  have d1 : (w1.setCell ⟨g, 3, none⟩ (.int .i64 0)).cell? ⟨g, 1, none⟩ = some r.ptr := by rw [World.cell?_setCell_other]; exact c1; simp
  have HO := Lib.hid ((Only.refl (T.node g l x u r).blocks w1).setCell (g := g) (i := 3) (by exact List.mem_cons_self) (.int .i64 0))
  replace HL2 : Hid ((l).At (w1.setCell ⟨g, 3, none⟩ (.int .i64 0))) := HL2
  replace HR2 : Hid ((r).At (w1.setCell ⟨g, 3, none⟩ (.int .i64 0))) := HR2
  clear c0 c1 c2 c3 z3 HG HL HR HM
  generalize w1.setCell ⟨g, 3, none⟩ (.int .i64 0) = w2 at *
  go_still_tail 10, (by kernel_rfl)
  go_wp2_with fail
  refine (join_any l r _ (HL2.out.drewN 1) (HR2.out.drewN 1) HN.out (by simp only [T.sz] at hs; omega) (by simp only [T.ds] at hd; omega)).mono ?_
  rintro e w3 ⟨rfl, hA3, hO3⟩
  go_wp2
  go_ret
  exact ⟨rfl, hA3, (HO.out.drewN 1).trans (hO3.mono fun k hk => List.mem_cons_of_mem _ hk)⟩

end Go.Proofs.Ytipgbbhgmoehfaa

/-
  Update as a whole; what it makes of the numbers; the closures.
-/
namespace Go.Proofs.Ytipgbbhgmoehfaa
open Go.RowKit
set_option linter.unusedSimpArgs false

theorem update_any (x : Int) (f : Nat → Nat) (K Bx : Nat) (hK : Goes K) (t : T) (hnd : t.blocks.Nodup) (hs : t.sz + f (t.cnt x) ≤ 2 ^ 60) (hd : t.ds + 1 ≤ 2 ^ 60) : UpdOk x f K Bx t := by
  induction t with
  | leaf =>
    intro w _ hm
    by_cases h0 : f 0 = 0
    · refine (update_leaf0 x K Bx w hK (by simpa [T.cnt, h0] using hm)).mono ?_
      rintro e w' ⟨rfl, rfl⟩
      simp only [T.upd, if_pos h0]
      exact ⟨rfl, trivial, Only.refl _ _⟩
    · refine (update_leaf1 x K Bx (f 0) w hK (by omega) (by simp only [T.cnt, T.sz] at hs; omega) hm).mono ?_
      rintro e w' ⟨rfl, h1, h2⟩
      simp only [T.upd, if_neg h0]
      exact ⟨trivial, h1, h2⟩
  | node g l y u r ihl ihr =>
    intro w hw hm
    have hn := List.nodup_cons.1 hnd
    have hna := List.nodup_append.1 hn.2
    by_cases h1 : x < y
    · have e : (T.node g l y u r).cnt x = l.cnt x := by simp [T.cnt, h1]
      rw [e] at hm hs
      have := update_lt x y f K Bx g u l r w hw hnd h1 (by simp only [T.sz] at hs; omega) hd hm (ihl hna.1 (by simp only [T.sz] at hs; omega) (by simp only [T.ds] at hd; omega))
      simp only [T.upd, if_pos h1]
      exact this
    · by_cases h2 : y < x
      · have e : (T.node g l y u r).cnt x = r.cnt x := by simp [T.cnt, h1, h2]
        rw [e] at hm hs
        have := update_gt x y f K Bx g u l r w hw hnd h2 (by simp only [T.sz] at hs; omega) hd hm (ihr hna.2.1 (by simp only [T.sz] at hs; omega) (by simp only [T.ds] at hd; omega))
        simp only [T.upd, if_neg h1, if_pos h2]
        exact this
      · obtain rfl : x = y := by omega
        have e : (T.node g l x u r).cnt x = u := by simp [T.cnt]
        rw [e] at hm hs
        simp only [T.upd, if_neg h1]
        by_cases h0 : f u = 0
        · rw [h0] at hm
          rw [if_pos h0]
          exact update_eq0 x K Bx g u l r w hK hw hnd (by omega) (by omega) hm
        · rw [if_neg h0]
          exact update_eq1 x K Bx g u (f u) l r w hK hw hnd (by omega) (by simp only [T.sz] at hs ⊢; omega) (by omega) hm

theorem goes_add : Goes 116 := fun _ _ => by kernel_rfl
theorem goes_remove : Goes 118 := fun _ _ => by kernel_rfl

set_option maxRecDepth 100000 in
theorem makes_add (Bx a k : Nat) (w : World) (hc : w.cell? ⟨Bx, 0, none⟩ = some (.int .i64 k)) (ha : a ≤ 2 ^ 60) (hk : k ≤ 2 ^ 60) : Makes 116 Bx a (a + k) w := by
  intro w' he
  have h1 := he.trans hc
  clear he hc
  have q : IntKind.i64.wrap ((a : Int) + (k : Int)) = (a : Int) + (k : Int) := IntWalk.i64_in _ (by omega)
  go_enter Try.func116, Try.ntmps116
  go_wp2
  go_ret
  exact ⟨by rw [Int.natCast_add]; rfl, rfl⟩

set_option maxRecDepth 100000 in
theorem makes_remove (Bx a k : Nat) (w : World) (hc : w.cell? ⟨Bx, 0, none⟩ = some (.int .i64 k)) (ha : a ≤ 2 ^ 60) (hk : k ≤ a) : Makes 118 Bx a (a - k) w := by
  intro w' he
  have h1 := he.trans hc
  clear he hc
  have q : IntKind.i64.wrap ((a : Int) - (k : Int)) = (a : Int) - (k : Int) := IntWalk.i64_in _ (by omega)
  go_enter Try.func118, Try.ntmps118
  go_wp2
  go_ret
  exact ⟨by rw [Int.ofNat_sub hk]; rfl, rfl⟩

end Go.Proofs.Ytipgbbhgmoehfaa

/-
  What update makes of the numbers of a tree, as a list (plain).
-/
namespace Go.Proofs.Ytipgbbhgmoehfaa

abbrev Items := List (Int × Nat)
def Sorted (l : Items) : Prop := l.Pairwise fun a b => a.1 < b.1
def lcnt (x : Int) : Items → Nat
  | [] => 0
  | p :: l => if p.1 = x then p.2 else lcnt x l
/-- The list with x so many times (0: not at all). -/
def lput (x : Int) (n : Nat) : Items → Items
  | [] => if n = 0 then [] else [(x, n)]
  | p :: l => if p.1 < x then p :: lput x n l else if p.1 = x then (if n = 0 then l else (x, n) :: l) else (if n = 0 then p :: l else (x, n) :: p :: l)

theorem lcnt_none {x : Int} {l : Items} (h : ∀ p ∈ l, p.1 ≠ x) : lcnt x l = 0 := by
  induction l with
  | nil => rfl
  | cons p l ih => simp only [lcnt, if_neg (h p List.mem_cons_self)]; exact ih fun q hq => h q (List.mem_cons_of_mem _ hq)
theorem lcnt_left {x : Int} {a b : Items} (h : ∀ p ∈ b, p.1 ≠ x) : lcnt x (a ++ b) = lcnt x a := by
  induction a with
  | nil => exact lcnt_none h
  | cons p a ih => simp only [List.cons_append, lcnt, ih]
theorem lcnt_right {x : Int} {a b : Items} (h : ∀ p ∈ a, p.1 ≠ x) : lcnt x (a ++ b) = lcnt x b := by
  induction a with
  | nil => rfl
  | cons p a ih => simp only [List.cons_append, lcnt, if_neg (h p List.mem_cons_self)]; exact ih fun q hq => h q (List.mem_cons_of_mem _ hq)
theorem lput_left {x : Int} {n : Nat} {a b : Items} (h : ∀ p ∈ b, x < p.1) : lput x n (a ++ b) = lput x n a ++ b := by
  induction a with
  | nil =>
    cases b with
    | nil => simp [lput]
    | cons p b =>
      have := h p List.mem_cons_self
      simp only [List.nil_append, lput, if_neg (show ¬ p.1 < x by omega), if_neg (show ¬ p.1 = x by omega)]
      split <;> rfl
  | cons p a ih =>
    simp only [List.cons_append, lput, ih]
    split
    · rfl
    · split <;> split <;> rfl
theorem lput_right {x : Int} {n : Nat} {a b : Items} (h : ∀ p ∈ a, p.1 < x) : lput x n (a ++ b) = a ++ lput x n b := by
  induction a with
  | nil => rfl
  | cons p a ih => simp only [List.cons_append, lput, if_pos (h p List.mem_cons_self)]; rw [ih fun q hq => h q (List.mem_cons_of_mem _ hq)]

theorem sorted_split {a b : Items} {p : Int × Nat} (h : Sorted (a ++ p :: b)) : Sorted a ∧ Sorted b ∧ (∀ q ∈ a, q.1 < p.1) ∧ (∀ q ∈ b, p.1 < q.1) := by
  unfold Sorted at h ⊢
  rw [List.pairwise_append, List.pairwise_cons] at h
  obtain ⟨h1, ⟨h2, h3⟩, h4⟩ := h
  exact ⟨h1, h3, fun q hq => h4 q hq p List.mem_cons_self, h2⟩

theorem cnt_items (x : Int) (t : T) (h : Sorted t.items) : t.cnt x = lcnt x t.items := by
  induction t with
  | leaf => rfl
  | node g l y u r ihl ihr =>
    obtain ⟨h1, h2, h3, h4⟩ := sorted_split h
    simp only [T.cnt, T.items]
    split
    · rename_i hlt
      rw [ihl h1, lcnt_left]
      intro p hp
      rcases List.mem_cons.1 hp with rfl | hp
      · show y ≠ x; omega
      · have : y < p.1 := h4 p hp
        omega
    · split
      · rename_i hlt
        rw [ihr h2, lcnt_right (fun p hp => by have : p.1 < y := h3 p hp; omega)]
        rw [lcnt, if_neg (show ¬ y = x by omega)]
      · rw [lcnt_right (fun p hp => by have : p.1 < y := h3 p hp; omega), lcnt, if_pos (show y = x by omega)]

theorem upd_items (N : Nat) (x : Int) (f : Nat → Nat) (t : T) (h : Sorted t.items) : (T.upd N x f t).items = lput x (f (lcnt x t.items)) t.items := by
  rw [← cnt_items x t h]
  induction t with
  | leaf =>
    simp only [T.upd, T.cnt, T.items, lput]
    split <;> simp [T.items]
  | node g l y u r ihl ihr =>
    obtain ⟨h1, h2, h3, h4⟩ := sorted_split h
    simp only [T.upd, T.cnt]
    split
    · rename_i hlt
      rw [T.bal_items]
      simp only [T.items]
      rw [ihl h1, lput_left]
      intro p hp
      rcases List.mem_cons.1 hp with rfl | hp
      · exact hlt
      · have : y < p.1 := h4 p hp
        omega
    · split
      · rename_i hlt
        rw [T.bal_items]
        simp only [T.items]
        rw [ihr h2, lput_right (fun p hp => by have : p.1 < y := h3 p hp; omega), lput, if_pos (by exact hlt)]
      · obtain rfl : y = x := by omega
        simp only [T.items]
        rw [lput_right (x := y) (fun p hp => h3 p hp), lput, if_neg (show ¬ y < y by omega), if_pos (show y = y from rfl)]
        split
        · rw [T.join_items]
        · rw [T.bal_items]; rfl

theorem lput_mem {x : Int} {n : Nat} {l : Items} {p : Int × Nat} (h : p ∈ lput x n l) : (p = (x, n) ∧ n ≠ 0) ∨ p ∈ l := by
  induction l with
  | nil =>
    simp only [lput] at h
    split at h
    · simp at h
    · exact .inl ⟨by simpa using h, by assumption⟩
  | cons q l ih =>
    simp only [lput] at h
    split at h
    · rcases List.mem_cons.1 h with rfl | h
      · exact .inr List.mem_cons_self
      · exact (ih h).elim .inl fun h => .inr (List.mem_cons_of_mem _ h)
    · split at h
      · split at h
        · exact .inr (List.mem_cons_of_mem _ h)
        · rcases List.mem_cons.1 h with rfl | h
          · exact .inl ⟨rfl, by assumption⟩
          · exact .inr (List.mem_cons_of_mem _ h)
      · split at h
        · exact .inr h
        · rcases List.mem_cons.1 h with rfl | h
          · exact .inl ⟨rfl, by assumption⟩
          · exact .inr h
theorem lput_sorted {x : Int} {n : Nat} {l : Items} (h : Sorted l) : Sorted (lput x n l) := by
  induction l with
  | nil =>
    simp only [lput]
    split <;> simp [Sorted]
  | cons q l ih =>
    have h2 := List.pairwise_cons.1 h
    simp only [lput]
    split
    · rename_i hlt
      refine List.pairwise_cons.2 ⟨fun p hp => ?_, ih h2.2⟩
      rcases lput_mem hp with ⟨rfl, _⟩ | hp
      · exact hlt
      · exact h2.1 p hp
    · split
      · rename_i he
        split
        · exact h2.2
        · exact List.pairwise_cons.2 ⟨fun p hp => by have := h2.1 p hp; show x < p.1; omega, h2.2⟩
      · split
        · exact h
        · refine List.pairwise_cons.2 ⟨fun p hp => ?_, h⟩
          show x < p.1
          rcases List.mem_cons.1 hp with rfl | hp
          · omega
          · have := h2.1 p hp; omega
theorem lput_sz {x : Int} {n : Nat} {l : Items} (h : Sorted l) : T.szL (lput x n l) + lcnt x l = T.szL l + n := by
  induction l with
  | nil =>
    simp only [lput, lcnt]
    split
    · simp [T.szL]; omega
    · simp [T.szL]
  | cons q l ih =>
    have h2 := List.pairwise_cons.1 h
    have ih := ih h2.2
    simp only [lput, lcnt]
    split
    · rename_i hlt
      rw [if_neg (show ¬ q.1 = x by omega)]
      simp only [T.szL]
      omega
    · split
      · rename_i he
        split
        · simp only [T.szL]; omega
        · simp only [T.szL]; omega
      · have : lcnt x l = 0 := lcnt_none fun p hp => by have := h2.1 p hp; omega
        split
        · simp only [T.szL]; omega
        · simp only [T.szL]; omega
theorem lput_pos {x : Int} {n : Nat} {l : Items} (h : ∀ p ∈ l, 1 ≤ p.2) : ∀ p ∈ lput x n l, 1 ≤ p.2 := by
  intro p hp
  rcases lput_mem hp with ⟨rfl, hn⟩ | hp
  · show 1 ≤ n; omega
  · exact h p hp
theorem len_le_sz {l : Items} (h : ∀ p ∈ l, 1 ≤ p.2) : l.length ≤ T.szL l := by
  induction l with
  | nil => simp [T.szL]
  | cons p l ih =>
    have := h p List.mem_cons_self
    have := ih fun q hq => h q (List.mem_cons_of_mem _ hq)
    simp only [List.length_cons, T.szL]
    omega
theorem lcnt_le_sz (x : Int) (l : Items) : lcnt x l ≤ T.szL l := by
  induction l with
  | nil => simp [lcnt]
  | cons p l ih => simp only [lcnt, T.szL]; split <;> omega

end Go.Proofs.Ytipgbbhgmoehfaa

/-
  The contracts of a bag's functions that read.
-/
namespace Go.Proofs.Ytipgbbhgmoehfaa
open Go.RowKit
set_option linter.unusedSimpArgs false

theorem bag_info : Try.prog.info? 182 = some ((Try.prog.info? 182).getD default) := by kernel_rfl
/-- The head of a bag lies in a block. -/
def HeadAt (W : World) (B : Nat) (t : T) : Prop := W.heap[B]? = some (.cells #[.pointer (some ⟨B, 0, none⟩), t.ptr] 182 (0, 0))
theorem HeadAt.c0 {W : World} {B : Nat} {t : T} (h : HeadAt W B t) : W.cell? ⟨B, 0, none⟩ = some (.pointer (some ⟨B, 0, none⟩)) := cell_of_heap h rfl
theorem HeadAt.c1 {W : World} {B : Nat} {t : T} (h : HeadAt W B t) : W.cell? ⟨B, 1, none⟩ = some t.ptr := cell_of_heap h rfl
theorem HeadAt.fz {W : World} {B : Nat} {t : T} (h : HeadAt W B t) (i : Nat) : W.frozen? ⟨B, i, none⟩ = false := frozen_of_heap h

set_option maxRecDepth 100000 in
theorem valid_any (B : Nat) (t : T) (w : World) (h : HeadAt w B t) : Calls Try.prog 113 #[.pointer (some ⟨B, 0, none⟩)] w fun e w' => e = .returned (.bool true) ∧ w = w' := by
  have c0 := h.c0
  clear h
  go_enter Try.func113, Try.ntmps113
  have he := fun W => run_eql_ptr_same (P := Try.prog) (w := W) (tp := 149) (te := 182) ⟨B, 0, none⟩ Try.underlying149 bag_info
  go_wp2
  go_ret
  exact ⟨rfl, rfl⟩

set_option maxRecDepth 100000 in
theorem tree_any (B : Nat) (t : T) (w : World) (h : HeadAt w B t) : Calls Try.prog 133 #[.pointer (some ⟨B, 0, none⟩)] w fun e w' => e = .returned t.ptr ∧ w = w' := by
  have c1 := h.c1
  have CV := Lib.hid (valid_any B t w h)
  clear h
  go_enter Try.func133, Try.ntmps133
  go_wp2_with fail
  refine CV.out.mono ?_
  rintro e w' ⟨rfl, rfl⟩
  go_wp2_with fail
  go_ret
  exact ⟨rfl, rfl⟩

set_option maxRecDepth 100000 in
theorem Size_any (B : Nat) (t : T) (w : World) (h : HeadAt w B t) (ht : t.At w) : Calls Try.prog 114 #[.pointer (some ⟨B, 0, none⟩)] w fun e w' => e = .returned (.int .i64 t.sz) ∧ ∃ n, w' = w.drewN n := by
  have CV := Lib.hid (tree_any B t w h)
  have CS := Lib.hid (sizes_any t w ht)
  clear h ht
  go_enter Try.func114, Try.ntmps114
  go_wp2_with fail
  refine CV.out.mono ?_
  rintro e w' ⟨rfl, rfl⟩
  go_wp2_with fail
  refine CS.out.mono ?_
  rintro e w' ⟨rfl, n, rfl⟩
  go_wp2_with fail
  go_ret
  exact ⟨rfl, n, rfl⟩

set_option maxRecDepth 100000 in
set_option maxHeartbeats 2000000 in
theorem Count_any (B : Nat) (t : T) (x : Int) (w : World) (h : HeadAt w B t) (ht : t.At w) : Calls Try.prog 117 #[.pointer (some ⟨B, 0, none⟩), .int .i64 x] w fun e w' => e = .returned (.int .i64 (t.cnt x)) ∧ w = w' := by
  have CV := Lib.hid (tree_any B t w h)
  have HT := Lib.hid ht
  clear h ht
  go_enter Try.func117, Try.ntmps117
  go_wp2_with fail
  refine CV.out.mono ?_
  rintro e w' ⟨rfl, rfl⟩
  go_wp2_with fail
  go_loopg [5] t.ds (fun k v wr => ∃ s : T, v = s.ptr ∧ Hid (s.ds = k) ∧ wr = w ∧ Hid (s.At w) ∧ Hid (s.cnt x = t.cnt x))
  case atStart => exact ⟨t, rfl, Lib.hid rfl, rfl, HT, Lib.hid rfl⟩
  case round =>
    obtain ⟨s, hv, hk, rfl, hs, hx⟩ := hrel
    cases s with
    | leaf =>
      replace hv : _ = Value.pointer none := hv
      subst hv
      go_wp2_with fail
      go_ret
      exact ⟨by rw [← hx.out]; rfl, rfl⟩
    | node g l y u r =>
      obtain ⟨h1, h2, h3⟩ := id hs.out
      have c0 := cell_of_heap (i := 0) h1 rfl
      have c1 := cell_of_heap (i := 1) h1 rfl
      have c2 := cell_of_heap (i := 2) h1 rfl
      have c3 := cell_of_heap (i := 3) h1 rfl
      have HL := Lib.hid h2
      have HR := Lib.hid h3
      have hk2 := hk.out
      simp only [T.ds] at hk2
      clear h1 h2 h3 hs hk
      replace c0 : wr.cell? ⟨g, 0, none⟩ = some l.ptr := c0
      replace c1 : wr.cell? ⟨g, 1, none⟩ = some r.ptr := c1
      replace c2 : wr.cell? ⟨g, 2, none⟩ = some (.int .i64 y) := c2
      replace c3 : wr.cell? ⟨g, 3, none⟩ = some (.int .i64 u) := c3
      replace hv : _ = Value.pointer (some ⟨g, 0, none⟩) := hv
      subst hv
      by_cases hxy : y = x
      · subst hxy
        have q : (y != y) = false := by simp
        have HX := hx
        clear hx
        go_wp2_with fail
        go_ret
        exact ⟨by rw [← HX.out]; simp [T.cnt], rfl⟩
      · have q : (y != x) = true := by simpa using hxy
        by_cases hlt : x < y
        · have HX := Lib.hid (show l.cnt x = t.cnt x by have := hx.out; simpa [T.cnt, hlt] using this)
          clear hx
          go_wp2_with fail
          go_roundg l.ds
          case measure => omega
          case rel => exact ⟨l, rfl, Lib.hid rfl, rfl, HL, HX⟩
        · have HX := Lib.hid (show r.cnt x = t.cnt x by have := hx.out; simpa [T.cnt, hlt, show y < x by omega] using this)
          clear hx
          go_wp2_with fail
          go_roundg r.ds
          case measure => omega
          case rel => exact ⟨r, rfl, Lib.hid rfl, rfl, HR, HX⟩

end Go.Proofs.Ytipgbbhgmoehfaa
