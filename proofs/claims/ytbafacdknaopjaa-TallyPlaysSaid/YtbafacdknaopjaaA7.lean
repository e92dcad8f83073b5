/-
  The contract of update.
-/
import Derived.Test.YtbafacdknaopjaaA6
import Derived.StillTailTactics
namespace Go.Proofs.Ytbafacdknaopjaa
open Go.RowKit
set_option linter.unusedSimpArgs false

namespace T
def cnt (x : Int) : T → Nat
  | leaf => 0
  | node _ l y t r => if x < y then l.cnt x else if y < x then r.cnt x else t
def upd (N : Nat) (x : Int) (f : Nat → Nat) : T → T
  | leaf => if f 0 = 0 then leaf else node N leaf x (f 0) leaf
  | node g l y t r => if x < y then bal (node g (upd N x f l) y t r) else if y < x then bal (node g l y t (upd N x f r)) else if f t = 0 then join l r else bal (node g l y (f t) r)
theorem upd_sz (N : Nat) (x : Int) (f : Nat → Nat) (t : T) : (upd N x f t).sz ≤ t.sz + f (t.cnt x) := by
  induction t with
  | leaf => simp only [upd]; split <;> simp_all [sz, cnt]
  | node g l y t r ihl ihr =>
    simp only [upd, cnt]
    split
    · rw [sz_of (bal_items _)]; simp only [sz]; omega
    · split
      · rw [sz_of (bal_items _)]; simp only [sz]; omega
      · split
        · rw [sz_items, join_items, szL_append, ← sz_items, ← sz_items]; simp only [sz]; omega
        · rw [sz_of (bal_items _)]; simp only [sz]; omega
theorem upd_ds (N : Nat) (x : Int) (f : Nat → Nat) (t : T) : (upd N x f t).ds ≤ t.ds + 1 := by
  induction t with
  | leaf => simp only [upd]; split <;> simp_all [ds]
  | node g l y t r ihl ihr =>
    simp only [upd]
    split
    · rw [ds_of (bal_items _)]; simp only [ds]; omega
    · split
      · rw [ds_of (bal_items _)]; simp only [ds]; omega
      · split
        · rw [ds_items, join_items, List.length_append, ← ds_items, ← ds_items]; simp only [ds]; omega
        · rw [ds_of (bal_items _)]; simp only [ds]; omega
theorem upd_blocks (N : Nat) (x : Int) (f : Nat → Nat) (t : T) : ∃ rest, ((upd N x f t).blocks ++ rest).Perm (N :: t.blocks) := by
  induction t with
  | leaf =>
    simp only [upd]
    split
    · exact ⟨[N], .refl _⟩
    · exact ⟨[], .refl _⟩
  | node g l y t r ihl ihr =>
    obtain ⟨a, ha⟩ := ihl
    obtain ⟨b, hb⟩ := ihr
    simp only [upd]
    split
    · refine ⟨a, ((bal_blocks _).append_right _).trans ?_⟩
      rw [List.perm_iff_count] at ha ⊢
      intro k
      have := ha k
      simp only [blocks, List.count_append, List.count_cons, List.cons_append] at this ⊢
      omega
    · split
      · refine ⟨b, ((bal_blocks _).append_right _).trans ?_⟩
        rw [List.perm_iff_count] at hb ⊢
        intro k
        have := hb k
        simp only [blocks, List.count_append, List.count_cons, List.cons_append] at this ⊢
        omega
      · split
        · refine ⟨[N, g], ((join_blocks _ _).append_right _).trans ?_⟩
          rw [List.perm_iff_count]
          intro k
          simp only [blocks, List.count_append, List.count_cons, List.cons_append, List.count_nil]
          omega
        · refine ⟨[N], ((bal_blocks _).append_right _).trans ?_⟩
          rw [List.perm_iff_count]
          intro k
          simp only [blocks, List.count_append, List.count_cons, List.cons_append, List.count_nil]
          omega
theorem upd_mem {N : Nat} {x : Int} {f : Nat → Nat} {t : T} {k : Nat} (h : k ∈ (upd N x f t).blocks) : k = N ∨ k ∈ t.blocks := by
  obtain ⟨a, ha⟩ := upd_blocks N x f t
  exact List.mem_cons.1 (ha.mem_iff.1 (List.mem_append_left _ h))
theorem upd_nodup {N : Nat} {x : Int} {f : Nat → Nat} {t : T} (h : t.blocks.Nodup) (hN : N ∉ t.blocks) : (upd N x f t).blocks.Nodup := by
  obtain ⟨a, ha⟩ := upd_blocks N x f t
  exact (List.nodup_append.1 (ha.nodup_iff.2 (List.nodup_cons.2 ⟨hN, h⟩))).1
end T

/-- A function value enters its function. -/
def Goes (K : Nat) : Prop := ∀ (args : Array Value) (w : World), (callFunc K args).run Try.prog w = .ok (.enter K args) w
/-- What a closure over one box makes of a count, in the worlds that are like a given one. -/
def Makes (K Bx a b : Nat) (w : World) : Prop := ∀ w', w'.cell? ⟨Bx, 0, none⟩ = w.cell? ⟨Bx, 0, none⟩ → Calls Try.prog K #[.int .i64 a, .pointer (some ⟨Bx, 0, none⟩)] w' fun e w'' => e = .returned (.int .i64 b) ∧ w'' = w'
abbrev clo (K Bx : Nat) : Value := .func (.func K) #[] #[.pointer (some ⟨Bx, 0, none⟩)]

set_option maxRecDepth 100000 in
set_option maxHeartbeats 2000000 in
theorem update_leaf0 (x : Int) (K Bx : Nat) (w : World) (hK : Goes K) (hf : Makes K Bx 0 0 w) :
    Calls Try.prog 135 #[.pointer none, .int .i64 x, clo K Bx] w fun e w' => e = .returned (.pointer none) ∧ w' = w := by
  have HF := Lib.hid (hf w rfl)
  unfold Goes at hK
  clear hf
  go_enter Try.func135, Try.ntmps135
  go_wp2_with fail
  refine HF.out.mono ?_
  rintro e w' ⟨rfl, rfl⟩
  go_wp2_with fail
  go_ret
  exact ⟨rfl, rfl⟩

theorem Only.to {gs hs : List Nat} {a b c : World} (h : Only gs a b) (k : Only hs b c) (hsub : ∀ i, i ∈ hs → i < a.heap.size → i ∈ gs) : Only gs a c :=
  ⟨k.os.trans h.os, k.tape.trans h.tape, k.output.trans h.output, Nat.le_trans h.size k.size, fun i hi hn => (k.block i (Nat.lt_of_lt_of_le hi h.size) fun hm => hn (hsub i hm hi)).trans (h.block i hi hn)⟩

set_option maxRecDepth 100000 in
set_option maxHeartbeats 2000000 in
theorem update_leaf1 (x : Int) (K Bx b : Nat) (w : World) (hK : Goes K) (hb : 0 < b) (hb2 : b ≤ 2 ^ 60) (hf : Makes K Bx 0 b w) :
    Calls Try.prog 135 #[.pointer none, .int .i64 x, clo K Bx] w fun e w' => e = .returned (T.node w.heap.size .leaf x b .leaf).ptr ∧ (T.node w.heap.size .leaf x b .leaf).At w' ∧ Only [] w w' := by
  have HF := Lib.hid (hf w rfl)
  unfold Goes at hK
  clear hf
  have q : ((b : Int) == 0) = false := by simp; omega
  go_enter Try.func135, Try.ntmps135
  go_wp2_with fail
  refine HF.out.mono ?_
  rintro e w' ⟨rfl, rfl⟩
  go_wp2_with fail
  have hA : (w'.alloc (.cells (T.cells .leaf x b .leaf 0 0 0) 194 (0, 0))).heap[w'.heap.size]? = some (.cells (T.cells .leaf x b .leaf 0 0 0) 194 (0, 0)) := heap_alloc_new _ _
  refine (refresh_any w'.heap.size b .leaf .leaf x 0 0 0 _ (by exact hA) trivial trivial (by simp [T.blocks]) (by simp [T.blocks]) (by simp only [T.sz]; omega) (by simp [T.ds]) (by simp [T.ht])).mono ?_
  rintro e w1 ⟨⟨v, rfl⟩, hg1, hO1⟩
  go_wp2
  go_ret
  refine ⟨rfl, ⟨hg1, trivial, trivial⟩, hO1.os, hO1.tape, hO1.output, Nat.le_trans (by rw [World.size_alloc]; omega) hO1.size, fun k hk _ => ?_⟩
  exact (hO1.block k (by rw [World.size_alloc]; omega) (by simp; omega)).trans (heap_alloc_old _ _ hk)

theorem Makes.same {K Bx a b : Nat} {w w' : World} (h : Makes K Bx a b w) (he : w'.cell? ⟨Bx, 0, none⟩ = w.cell? ⟨Bx, 0, none⟩) : Makes K Bx a b w' := fun w2 h2 => h w2 (h2.trans he)

/-- What update promises of one tree. -/
def UpdOk (x : Int) (f : Nat → Nat) (K Bx : Nat) (t : T) : Prop := ∀ w : World, t.At w → Makes K Bx (t.cnt x) (f (t.cnt x)) w →
  Calls Try.prog 135 #[t.ptr, .int .i64 x, clo K Bx] w fun e w' => e = .returned (T.upd w.heap.size x f t).ptr ∧ (T.upd w.heap.size x f t).At w' ∧ Only t.blocks w w'

set_option maxRecDepth 100000 in
set_option maxHeartbeats 2000000 in
theorem update_lt (x y : Int) (f : Nat → Nat) (K Bx g u : Nat) (l r : T) (w : World) (hg : (T.node g l y u r).At w) (hnd : (T.node g l y u r).blocks.Nodup) (hxy : x < y)
    (hs : l.sz + f (l.cnt x) + u + r.sz ≤ 2 ^ 60) (hd : (T.node g l y u r).ds + 1 ≤ 2 ^ 60) (hm : Makes K Bx (l.cnt x) (f (l.cnt x)) w) (ih : UpdOk x f K Bx l) :
    Calls Try.prog 135 #[.pointer (some ⟨g, 0, none⟩), .int .i64 x, clo K Bx] w fun e w' => e = .returned (T.bal (.node g (T.upd w.heap.size x f l) y u r)).ptr ∧ (T.bal (.node g (T.upd w.heap.size x f l) y u r)).At w' ∧ Only (T.node g l y u r).blocks w w' := by
  obtain ⟨h1, h2, h3⟩ := hg
  have hgw := heap_lt h1
  have hn := List.nodup_cons.1 hnd
  have hna := List.nodup_append.1 hn.2
  have hgl : g ∉ l.blocks := fun hm => hn.1 (List.mem_append_left _ hm)
  have hgr : g ∉ r.blocks := fun hm => hn.1 (List.mem_append_right _ hm)
  have hNl : w.heap.size ∉ l.blocks := fun hm => Nat.lt_irrefl _ (h2.lt _ hm)
  have hNr : w.heap.size ∉ r.blocks := fun hm => Nat.lt_irrefl _ (h3.lt _ hm)
  have hgu : g ∉ (T.upd w.heap.size x f l).blocks := fun hm => (T.upd_mem hm).elim (fun e => by omega) hgl
  have HND := Lib.hid (show (T.node g (T.upd w.heap.size x f l) y u r).blocks.Nodup from by
    refine List.nodup_cons.2 ⟨fun hm => (List.mem_append.1 hm).elim hgu hgr, List.nodup_append.2 ⟨T.upd_nodup hna.1 hNl, hna.2.1, ?_⟩⟩
    rintro a ha b hb rfl
    exact (T.upd_mem ha).elim (fun e => hNr (e ▸ hb)) fun h => hna.2.2 a h a hb rfl)
  have HDJ := Lib.hid (show ∀ k, k ∈ r.blocks → k ∉ l.blocks from fun k hk hm => hna.2.2 k hm k hk rfl)
  have HS := Lib.hid (show (T.node g (T.upd w.heap.size x f l) y u r).sz ≤ 2 ^ 60 ∧ (T.node g (T.upd w.heap.size x f l) y u r).ds ≤ 2 ^ 60 from by
    have e1 := T.upd_sz w.heap.size x f l
    have e2 := T.upd_ds w.heap.size x f l
    simp only [T.sz, T.ds] at hd ⊢
    omega)
  have HG := Lib.hid h1
  have HL := Lib.hid h2
  have HR := Lib.hid h3
  have IH := Lib.hid (fun W h1 h2 => ih W h1 h2)
  have HM := Lib.hid hm
  have HLT : ∀ k, k ∈ r.blocks → k < w.heap.size := h3.lt
  have HLR := Lib.hid HLT
  have c0 := cell_of_heap (i := 0) h1 rfl
  have c2 := cell_of_heap (i := 2) h1 rfl
  have z0 := frozen_of_heap (i := 0) h1
  replace c0 : w.cell? ⟨g, 0, none⟩ = some l.ptr := c0
  replace c2 : w.cell? ⟨g, 2, none⟩ = some (.int .i64 y) := c2
  clear h1 h2 h3 hn hna hs hd ih hnd hm HLT hNl hNr
  go_enter Try.func135, Try.ntmps135
  go_wp2_with fail
  go_region_with (go_at_call 135; refine (IH.out _ (by exact HL.out.same fun _ _ => rfl) (by exact HM.out.same rfl)).mono ?_; rintro e w1 ⟨rfl, hA1, hO1⟩; have gG := (hO1.block g (heap_lt (show w.heap[g]? = _ from HG.out)) hgl).trans HG.out; have zc := cell_of_heap (i := 0) gG rfl; have zz := frozen_of_heap (i := 0) gG)
  have HG2 := Lib.hid (set_heap (i := 0) (T.upd w.heap.size x f l).ptr gG)
  have HA2 := Lib.hid (T.At.set hA1 (i := 0) (T.upd w.heap.size x f l).ptr hgu)
  have HR2 := Lib.hid ((((HR.out.drewN 1).only hO1 HDJ.out)).set (g := g) (i := 0) (T.upd w.heap.size x f l).ptr hgr)
  have HO := Lib.hid hO1
  clear zc zz gG hA1 hO1
  go_wp2_with fail
  refine (balance_any g u (T.upd w.heap.size x f l) r y _ _ _ _ (by exact HG2.out) HA2.out HR2.out HND.out HS.out.1 HS.out.2).mono ?_
  rintro e w2 ⟨rfl, hA3, hO3⟩
  go_wp2
  go_ret
  refine ⟨rfl, hA3, ?_⟩
  have hO4 := (((Only.refl (T.node g l y u r).blocks w).drewN 1).trans (HO.out.mono fun k hk => List.mem_cons_of_mem _ (List.mem_append_left _ hk))).setCell (i := 0) (by exact List.mem_cons_self) (T.upd w.heap.size x f l).ptr
  refine hO4.to hO3 (fun k hk hlt => ?_)
  rcases List.mem_cons.1 hk with rfl | hk
  · exact List.mem_cons_self
  · rcases List.mem_append.1 hk with hk | hk
    · exact (T.upd_mem hk).elim (fun e => by omega) fun h => List.mem_cons_of_mem _ (List.mem_append_left _ h)
    · exact List.mem_cons_of_mem _ (List.mem_append_right _ hk)

set_option maxRecDepth 100000 in
set_option maxHeartbeats 2000000 in
theorem update_gt (x y : Int) (f : Nat → Nat) (K Bx g u : Nat) (l r : T) (w : World) (hg : (T.node g l y u r).At w) (hnd : (T.node g l y u r).blocks.Nodup) (hxy : y < x)
    (hs : r.sz + f (r.cnt x) + u + l.sz ≤ 2 ^ 60) (hd : (T.node g l y u r).ds + 1 ≤ 2 ^ 60) (hm : Makes K Bx (r.cnt x) (f (r.cnt x)) w) (ih : UpdOk x f K Bx r) :
    Calls Try.prog 135 #[.pointer (some ⟨g, 0, none⟩), .int .i64 x, clo K Bx] w fun e w' => e = .returned (T.bal (.node g l y u (T.upd w.heap.size x f r))).ptr ∧ (T.bal (.node g l y u (T.upd w.heap.size x f r))).At w' ∧ Only (T.node g l y u r).blocks w w' := by
  obtain ⟨h1, h2, h3⟩ := hg
  have hgw := heap_lt h1
  have hn := List.nodup_cons.1 hnd
  have hna := List.nodup_append.1 hn.2
  have hgl : g ∉ l.blocks := fun hm => hn.1 (List.mem_append_left _ hm)
  have hgr : g ∉ r.blocks := fun hm => hn.1 (List.mem_append_right _ hm)
  have hNl : w.heap.size ∉ l.blocks := fun hm => Nat.lt_irrefl _ (h2.lt _ hm)
  have hNr : w.heap.size ∉ r.blocks := fun hm => Nat.lt_irrefl _ (h3.lt _ hm)
  have hgu : g ∉ (T.upd w.heap.size x f r).blocks := fun hm => (T.upd_mem hm).elim (fun e => by omega) hgr
  have HND := Lib.hid (show (T.node g l y u (T.upd w.heap.size x f r)).blocks.Nodup from by
    refine List.nodup_cons.2 ⟨fun hm => (List.mem_append.1 hm).elim hgl hgu, List.nodup_append.2 ⟨hna.1, T.upd_nodup hna.2.1 hNr, ?_⟩⟩
    rintro a ha b hb rfl
    exact (T.upd_mem hb).elim (fun e => hNl (e ▸ ha)) fun h => hna.2.2 a ha a h rfl)
  have HDJ := Lib.hid (show ∀ k, k ∈ l.blocks → k ∉ r.blocks from fun k hk hm => hna.2.2 k hk k hm rfl)
  have HS := Lib.hid (show (T.node g l y u (T.upd w.heap.size x f r)).sz ≤ 2 ^ 60 ∧ (T.node g l y u (T.upd w.heap.size x f r)).ds ≤ 2 ^ 60 from by
    have e1 := T.upd_sz w.heap.size x f r
    have e2 := T.upd_ds w.heap.size x f r
    simp only [T.sz, T.ds] at hd ⊢
    omega)
  have HG := Lib.hid h1
  have HL := Lib.hid h2
  have HR := Lib.hid h3
  have IH := Lib.hid (fun W h1 h2 => ih W h1 h2)
  have HM := Lib.hid hm
  have HLT : ∀ k, k ∈ r.blocks → k < w.heap.size := h3.lt
  have HLR := Lib.hid HLT
  have c0 := cell_of_heap (i := 1) h1 rfl
  have c2 := cell_of_heap (i := 2) h1 rfl
  have z0 := frozen_of_heap (i := 1) h1
  replace c0 : w.cell? ⟨g, 1, none⟩ = some r.ptr := c0
  replace c2 : w.cell? ⟨g, 2, none⟩ = some (.int .i64 y) := c2
  clear h1 h2 h3 hn hna hs hd ih hnd hm HLT hNl hNr
  go_enter Try.func135, Try.ntmps135
  go_wp2_with fail
  go_region_with (go_at_call 135; refine (IH.out _ (by exact HR.out.same fun _ _ => rfl) (by exact HM.out.same rfl)).mono ?_; rintro e w1 ⟨rfl, hA1, hO1⟩; have gG := (hO1.block g (heap_lt (show w.heap[g]? = _ from HG.out)) hgr).trans HG.out; have zc := cell_of_heap (i := 1) gG rfl; have zz := frozen_of_heap (i := 1) gG)
  have HG2 := Lib.hid (set_heap (i := 1) (T.upd w.heap.size x f r).ptr gG)
  have HA2 := Lib.hid (T.At.set hA1 (i := 1) (T.upd w.heap.size x f r).ptr hgu)
  have HR2 := Lib.hid ((((HL.out.drewN 1).only hO1 HDJ.out)).set (g := g) (i := 1) (T.upd w.heap.size x f r).ptr hgl)
  have HO := Lib.hid hO1
  clear zc zz gG hA1 hO1
  go_wp2_with fail
  refine (balance_any g u l (T.upd w.heap.size x f r) y _ _ _ _ (by exact HG2.out) HR2.out HA2.out HND.out HS.out.1 HS.out.2).mono ?_
  rintro e w2 ⟨rfl, hA3, hO3⟩
  go_wp2
  go_ret
  refine ⟨rfl, hA3, ?_⟩
  have hO4 := (((Only.refl (T.node g l y u r).blocks w).drewN 1).trans (HO.out.mono fun k hk => List.mem_cons_of_mem _ (List.mem_append_right _ hk))).setCell (i := 1) (by exact List.mem_cons_self) (T.upd w.heap.size x f r).ptr
  refine hO4.to hO3 (fun k hk hlt => ?_)
  rcases List.mem_cons.1 hk with rfl | hk
  · exact List.mem_cons_self
  · rcases List.mem_append.1 hk with hk | hk
    · exact List.mem_cons_of_mem _ (List.mem_append_left _ hk)
    · exact (T.upd_mem hk).elim (fun e => by omega) fun h => List.mem_cons_of_mem _ (List.mem_append_right _ h)

theorem set_times {W : World} {g u : Nat} {l r : T} {x s d h : Int} (hg : W.heap[g]? = some (.cells (T.cells l x u r s d h) 194 (0, 0))) (b : Nat) :
    (W.setCell ⟨g, 3, none⟩ (.int .i64 b)).heap[g]? = some (.cells (T.cells l x b r s d h) 194 (0, 0)) := set_heap (i := 3) _ hg

set_option maxRecDepth 100000 in
set_option maxHeartbeats 2000000 in
theorem update_eq1 (x : Int) (K Bx g u b : Nat) (l r : T) (w : World) (hK : Goes K) (hg : (T.node g l x u r).At w) (hnd : (T.node g l x u r).blocks.Nodup) (hb : 0 < b)
    (hs : (T.node g l x b r).sz ≤ 2 ^ 60) (hd : (T.node g l x u r).ds ≤ 2 ^ 60) (hm : Makes K Bx u b w) :
    Calls Try.prog 135 #[.pointer (some ⟨g, 0, none⟩), .int .i64 x, clo K Bx] w fun e w' => e = .returned (T.bal (.node g l x b r)).ptr ∧ (T.bal (.node g l x b r)).At w' ∧ Only (T.node g l x u r).blocks w w' := by
  obtain ⟨h1, h2, h3⟩ := hg
  have hn := List.nodup_cons.1 hnd
  have hgl : g ∉ l.blocks := fun hm => hn.1 (List.mem_append_left _ hm)
  have hgr : g ∉ r.blocks := fun hm => hn.1 (List.mem_append_right _ hm)
  have HN := Lib.hid hnd
  have HG := Lib.hid h1
  have HL := Lib.hid h2
  have HR := Lib.hid h3
  have HM := Lib.hid (hm w rfl)
  have c3 := cell_of_heap (i := 3) h1 rfl
  have c2 := cell_of_heap (i := 2) h1 rfl
  have z3 := frozen_of_heap (i := 3) h1
  replace c3 : w.cell? ⟨g, 3, none⟩ = some (.int .i64 u) := c3
  replace c2 : w.cell? ⟨g, 2, none⟩ = some (.int .i64 x) := c2
  have q : ((b : Int) == 0) = false := by simp; omega
  unfold Goes at hK
  clear h1 h2 h3 hn hnd hm
  go_enter Try.func135, Try.ntmps135
  go_wp2_with fail
  refine HM.out.mono ?_
  rintro e w1 ⟨rfl, rfl⟩
  have HG2 := Lib.hid (set_times HG.out b)
  have HL2 := Lib.hid (HL.out.set (i := 3) (.int .i64 b) hgl)
  have HR2 := Lib.hid (HR.out.set (i := 3) (.int .i64 b) hgr)
  go_wp2_with fail
  refine (balance_any g b l r x _ _ _ _ (by exact HG2.out) HL2.out HR2.out HN.out hs (by simpa [T.ds] using hd)).mono ?_
  rintro e w2 ⟨rfl, hA3, hO3⟩
  go_wp2
  go_ret
  exact ⟨rfl, hA3, ((Only.refl _ _).setCell (i := 3) (by exact List.mem_cons_self) _).trans hO3⟩

set_option maxRecDepth 100000 in
set_option maxHeartbeats 2000000 in
theorem update_eq0 (x : Int) (K Bx g u : Nat) (l r : T) (w : World) (hK : Goes K) (hg : (T.node g l x u r).At w) (hnd : (T.node g l x u r).blocks.Nodup)
    (hs : (T.node g l x u r).sz ≤ 2 ^ 60) (hd : (T.node g l x u r).ds ≤ 2 ^ 60) (hm : Makes K Bx u 0 w) :
    Calls Try.prog 135 #[.pointer (some ⟨g, 0, none⟩), .int .i64 x, clo K Bx] w fun e w' => e = .returned (T.join l r).ptr ∧ (T.join l r).At w' ∧ Only (T.node g l x u r).blocks w w' := by
  obtain ⟨h1, h2, h3⟩ := hg
  have hn := List.nodup_cons.1 hnd
  have hgl : g ∉ l.blocks := fun hm => hn.1 (List.mem_append_left _ hm)
  have hgr : g ∉ r.blocks := fun hm => hn.1 (List.mem_append_right _ hm)
  have HN := Lib.hid hn.2
  have HG := Lib.hid h1
  have HL := Lib.hid h2
  have HR := Lib.hid h3
  have HM := Lib.hid (hm w rfl)
  have c0 := cell_of_heap (i := 0) h1 rfl
  have c1 := cell_of_heap (i := 1) h1 rfl
  have c3 := cell_of_heap (i := 3) h1 rfl
  have c2 := cell_of_heap (i := 2) h1 rfl
  have z3 := frozen_of_heap (i := 3) h1
  replace c0 : w.cell? ⟨g, 0, none⟩ = some l.ptr := c0
  replace c1 : w.cell? ⟨g, 1, none⟩ = some r.ptr := c1
  replace c3 : w.cell? ⟨g, 3, none⟩ = some (.int .i64 u) := c3
  replace c2 : w.cell? ⟨g, 2, none⟩ = some (.int .i64 x) := c2
  unfold Goes at hK
  clear h1 h2 h3 hn hnd hm
  go_enter Try.func135, Try.ntmps135
  go_wp2_with fail
  refine HM.out.mono ?_
  rintro e w1 ⟨rfl, rfl⟩
  have HL2 := Lib.hid (HL.out.set (i := 3) (.int .i64 (0 : Nat)) hgl)
  have HR2 := Lib.hid (HR.out.set (i := 3) (.int .i64 (0 : Nat)) hgr)
  go_wp2_with fail
  have d0 : (w1.setCell ⟨g, 3, none⟩ (.int .i64 0)).cell? ⟨g, 0, none⟩ = some l.ptr := by rw [World.cell?_setCell_other]; exact c0; simp
  have d1 : (w1.setCell ⟨g, 3, none⟩ (.int .i64 0)).cell? ⟨g, 1, none⟩ = some r.ptr := by rw [World.cell?_setCell_other]; exact c1; simp
  have HO := Lib.hid ((Only.refl (T.node g l x u r).blocks w1).setCell (g := g) (i := 3) (by exact List.mem_cons_self) (.int .i64 0))
  replace HL2 : Hid ((l).At (w1.setCell ⟨g, 3, none⟩ (.int .i64 0))) := HL2
  replace HR2 : Hid ((r).At (w1.setCell ⟨g, 3, none⟩ (.int .i64 0))) := HR2
  clear c0 c1 c2 c3 z3 HG HL HR HM
  generalize w1.setCell ⟨g, 3, none⟩ (.int .i64 0) = w2 at *
  go_still_tail 10, (by kernel_rfl)
  go_wp2_with fail
  refine (join_any l r _ (HL2.out.drewN 1) (HR2.out.drewN 1) HN.out (by simp only [T.sz] at hs; omega) (by simp only [T.ds] at hd; omega)).mono ?_
  rintro e w3 ⟨rfl, hA3, hO3⟩
  go_wp2
  go_ret
  exact ⟨rfl, hA3, (HO.out.drewN 1).trans (hO3.mono fun k hk => List.mem_cons_of_mem _ hk)⟩
end Go.Proofs.Ytbafacdknaopjaa
