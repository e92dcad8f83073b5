/-
  The contract of copy.
-/
import Derived.Test.YtbafacdknaopjaaA15
namespace Go.Proofs.Ytbafacdknaopjaa
open Go.RowKit
set_option linter.unusedSimpArgs false

namespace T
/-- The same tree in other blocks. -/
def Like : T → T → Prop
  | leaf, leaf => True
  | node _ l x t r, node _ l' x' t' r' => x = x' ∧ t = t' ∧ Like l l' ∧ Like r r'
  | _, _ => False
theorem Like.all {a b : T} (h : Like a b) : b.items = a.items ∧ b.sz = a.sz ∧ b.ds = a.ds ∧ b.ht = a.ht := by
  induction a generalizing b with
  | leaf => cases b with
    | leaf => exact ⟨rfl, rfl, rfl, rfl⟩
    | node => exact h.elim
  | node g l x t r ihl ihr => cases b with
    | leaf => exact h.elim
    | node g' l' x' t' r' =>
      obtain ⟨rfl, rfl, h1, h2⟩ := h
      obtain ⟨a1, a2, a3, a4⟩ := ihl h1
      obtain ⟨b1, b2, b3, b4⟩ := ihr h2
      refine ⟨?_, ?_, ?_, ?_⟩ <;> simp only [items, sz, ds, ht, a1, a2, a3, a4, b1, b2, b3, b4]
end T

/-- What a copy of a tree is. -/
def Copied (t : T) (w : World) (e : Ending) (w' : World) : Prop := ∃ t' : T, e = .returned t'.ptr ∧ t'.At w' ∧ T.Like t t' ∧ t'.blocks.Nodup ∧ (∀ k, k ∈ t'.blocks → w.heap.size ≤ k) ∧ Only [] w w'

/-- What the copy of a kid leaves, beside what lay when the copy of the node began (its new block is C). -/
def Kid (t : T) (w0 : World) (g C : Nat) (pl pr : Value) (W : World) (e : Ending) (w' : World) : Prop := ∃ t' : T, e = .returned t'.ptr ∧ t'.At w' ∧ T.Like t t' ∧ t'.blocks.Nodup ∧ (∀ k, k ∈ t'.blocks → W.heap.size ≤ k) ∧ Only [] w0 w' ∧ Only [] W w' ∧
  w'.cell? ⟨g, 0, none⟩ = some pl ∧ w'.cell? ⟨g, 1, none⟩ = some pr ∧ w'.cell? ⟨C, 0, none⟩ = some pl ∧ w'.cell? ⟨C, 1, none⟩ = some pr ∧ w'.frozen? ⟨C, 0, none⟩ = false ∧ w'.frozen? ⟨C, 1, none⟩ = false
theorem kid_of {t : T} {w0 W : World} {g C : Nat} {cs : Array Value} {pl pr : Value} (h : Calls Try.prog 144 #[t.ptr] W (Copied t W)) (hO : Only [] w0 W) (hg : w0.heap[g]? = some (.cells cs 194 (0, 0))) (hC : w0.heap[C]? = some (.cells cs 194 (0, 0)))
    (h0 : cs[0]? = some pl) (h1 : cs[1]? = some pr) : Calls Try.prog 144 #[t.ptr] W (Kid t w0 g C pl pr W) := by
  refine h.mono ?_
  rintro e w' ⟨t', he, hA, hL, hN, hB, hO2⟩
  have hO3 := hO.trans hO2
  have g' := (hO3.block g (heap_lt hg) (by simp)).trans hg
  have c' := (hO3.block C (heap_lt hC) (by simp)).trans hC
  exact ⟨t', he, hA, hL, hN, hB, hO3, hO2, cell_of_heap g' h0, cell_of_heap g' h1, cell_of_heap c' h0, cell_of_heap c' h1, frozen_of_heap c', frozen_of_heap c'⟩

/-- The end of a copy: both kids are copied. -/
theorem copy_fin {w w0 w2 : World} {l r l' r' : T} {x : Int} {u g : Nat} (h0 : Only [] w w0) (hsz : w0.heap.size = w.heap.size + 1) (hC : w0.heap[w.heap.size]? = some (.cells (T.cells l x u r ((u + l.sz + r.sz : Nat) : Int) ((1 + l.ds + r.ds : Nat) : Int) ((max l.ht r.ht + 1 : Nat) : Int)) 194 (0, 0)))
    (hO : Only [] w0 w2) (hl : l'.At w2) (hr : r'.At w2) (hll : T.Like l l') (hrr : T.Like r r') (hlN : l'.blocks.Nodup) (hrN : r'.blocks.Nodup) (hlB : ∀ k, k ∈ l'.blocks → w0.heap.size ≤ k) (hrB : ∀ k, k ∈ r'.blocks → w0.heap.size ≤ k)
    (hd : ∀ k, k ∈ l'.blocks → k ∉ r'.blocks) : Copied (.node g l x u r) w (.returned (.pointer (some ⟨w.heap.size, 0, none⟩))) ((w2.setCell ⟨w.heap.size, 0, none⟩ l'.ptr).setCell ⟨w.heap.size, 1, none⟩ r'.ptr) := by
  have hCl : w.heap.size ∉ l'.blocks := fun hm => by have := hlB _ hm; omega
  have hCr : w.heap.size ∉ r'.blocks := fun hm => by have := hrB _ hm; omega
  obtain ⟨a1, a2, a3, a4⟩ := hll.all
  obtain ⟨b1, b2, b3, b4⟩ := hrr.all
  have hC2 := (hO.block _ (heap_lt hC) (by simp)).trans hC
  refine ⟨.node w.heap.size l' x u r', rfl, ⟨?_, (hl.set _ hCl).set _ hCl, (hr.set _ hCr).set _ hCr⟩, ⟨rfl, rfl, hll, hrr⟩, ?_, ?_, ?_⟩
  · have := set_heap (i := 1) r'.ptr (set_heap (i := 0) l'.ptr hC2)
    rw [a2, a3, a4, b2, b3, b4]
    exact this
  · refine List.nodup_cons.2 ⟨fun hm => (List.mem_append.1 hm).elim hCl hCr, List.nodup_append.2 ⟨hlN, hrN, ?_⟩⟩
    rintro a ha b hb rfl
    exact hd a ha hb
  · intro k hk
    rcases List.mem_cons.1 hk with rfl | hk
    · exact Nat.le_refl _
    · rcases List.mem_append.1 hk with hk | hk
      · have := hlB k hk; omega
      · have := hrB k hk; omega
  · refine (h0.trans hO).to (((Only.refl [w.heap.size] w2).setCell (by simp) l'.ptr).setCell (by simp) r'.ptr) (fun i hi hlt => ?_)
    simp at hi; omega

set_option maxRecDepth 100000 in
set_option maxHeartbeats 2000000 in
theorem copy_any (t : T) : ∀ w : World, t.At w → Calls Try.prog 144 #[t.ptr] w (Copied t w) := by
  induction t with
  | leaf =>
    intro w _
    show Calls Try.prog 144 #[.pointer none] w _
    go_enter Try.func144, Try.ntmps144
    go_wp2_with fail
    go_ret
    exact ⟨.leaf, rfl, trivial, trivial, by simp [T.blocks], by simp [T.blocks], Only.refl _ _⟩
  | node g l x u r ihl ihr =>
    intro w hA
    obtain ⟨h1, h2, h3⟩ := hA
    obtain ⟨s4, e4⟩ : ∃ s4 : Int, ((u + l.sz + r.sz : Nat) : Int) = s4 := ⟨_, rfl⟩
    obtain ⟨s5, e5⟩ : ∃ s5 : Int, ((1 + l.ds + r.ds : Nat) : Int) = s5 := ⟨_, rfl⟩
    obtain ⟨s6, e6⟩ : ∃ s6 : Int, ((max l.ht r.ht + 1 : Nat) : Int) = s6 := ⟨_, rfl⟩
    rw [e4, e5, e6] at h1
    have HE := Lib.hid (And.intro e4 (And.intro e5 e6))
    obtain ⟨c0, c1, c2, c3, c4, c5, c6⟩ := node_cells h1
    have hgw := heap_lt h1
    obtain ⟨w0, hw0⟩ : ∃ w0, w.alloc (.cells (T.cells l x u r s4 s5 s6) 194 (0, 0)) = w0 := ⟨_, rfl⟩
    have h0 : Only [] w w0 := hw0 ▸ (Only.refl [] w).alloc _
    have hC : w0.heap[w.heap.size]? = _ := hw0 ▸ heap_alloc_new w _
    have hg0 := (h0.block g hgw (by simp)).trans h1
    have hsz : w0.heap.size = w.heap.size + 1 := by rw [← hw0]; exact World.size_alloc _ _
    have HC := Lib.hid (And.intro h0 (And.intro hsz hC))
    have CL := Lib.hid (fun W (h : Only [] w0 W) => kid_of (pl := l.ptr) (pr := r.ptr) (ihl W (h2.only (h0.trans h) (fun _ _ hm => by simp at hm))) h hg0 hC rfl rfl)
    have CR := Lib.hid (fun W (h : Only [] w0 W) => kid_of (pl := l.ptr) (pr := r.ptr) (ihr W (h3.only (h0.trans h) (fun _ _ hm => by simp at hm))) h hg0 hC rfl rfl)
    have c00 := cell_of_heap (i := 0) hg0 rfl
    have c01 := cell_of_heap (i := 1) hg0 rfl
    have HO0 := Lib.hid (Only.refl [] w0)
    replace c00 : w0.cell? ⟨g, 0, none⟩ = some l.ptr := c00
    replace c01 : w0.cell? ⟨g, 1, none⟩ = some r.ptr := c01
    clear h1 h2 h3 ihl ihr h0 hC hg0 e4 e5 e6
    have HW := Lib.hid hw0
    clear hw0
    show Calls Try.prog 144 #[.pointer (some ⟨g, 0, none⟩)] w _
    go_enter Try.func144, Try.ntmps144
    go_wp2_with fail
    rw [show w.alloc (.cells #[.pointer l.addr, .pointer r.addr, .int .i64 x, .int .i64 u, .int .i64 s4, .int .i64 s5, .int .i64 s6] 194) = w0 from HW.out]
    go_region_with (first
      | (go_at_call_of 144 (l.ptr); refine (CL.out _ (by exact HO0.out.drewN 1)).mono ?_; rintro e wl ⟨l', rfl, hlA, hlL, hlN, hlB, hlO, hlW, f1, f2, f3, f4, f5, f6⟩; have HO1 := Lib.hid hlO; have HL := Lib.hid (And.intro hlA (And.intro hlL (And.intro hlN hlB))); clear hlA hlL hlN hlB hlO hlW CL)
      | (go_at_call_of 144 (r.ptr); refine (CR.out _ (by exact HO1.out)).mono ?_; rintro e wr ⟨r', rfl, hrA, hrL, hrN, hrB, hrO, hrW, k1, k2, k3, k4, k5, k6⟩; have HO2 := Lib.hid hrO; have HR := Lib.hid (And.intro hrA (And.intro hrL (And.intro hrN (And.intro hrB hrW)))); clear hrA hrL hrN hrB hrO hrW CR))
    all_goals
      go_wp2_with fail
      go_ret
      obtain ⟨hlA, hlL, hlN, hlB⟩ := HL.out
      obtain ⟨hrA, hrL, hrN, hrB, hrW⟩ := HR.out
      obtain ⟨e4, e5, e6⟩ := HE.out
      obtain ⟨h0, hsz, hC⟩ := HC.out
      rw [← e4, ← e5, ← e6] at hC
      have hlt := hlA.lt
      exact copy_fin (g := g) h0 hsz hC HO2.out (hlA.only hrW (fun _ _ hm => by simp at hm)) hrA hlL hrL hlN hrN hlB (fun k hk => Nat.le_trans HO1.out.size (hrB k hk)) (fun k hk hm => by have := hlt k hk; have := hrB k hm; omega)
end Go.Proofs.Ytbafacdknaopjaa
