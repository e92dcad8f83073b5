import Derived.Deep.RegionHeld3
import Derived.IntWalk
import Derived.Deep.Strs
import Derived.Test.YtipgbbhgmoehfaaYI
import Derived.Test.YtipgbbhgmoehfaaYH
/-
  The law's own helper made.
-/
namespace Go.Proofs.Ytipgbbhgmoehfaa
open Go.RowKit
set_option linter.unusedSimpArgs false
set_option linter.unusedSectionVars false

theorem wf_u16 {n : Int} (h : (Lit.int .u16 n).wf = true) : 0 ≤ n ∧ n ≤ 65535 := by simpa [Lit.wf, IntKind.min, IntKind.max, IntKind.bits, IntKind.signed] using h
theorem wf_mk {n : Int} (h0 : 0 ≤ n) (h1 : n ≤ 9223372036854775807) : (Lit.int .i64 n).wf = true := by simp [Lit.wf, IntKind.min, IntKind.max, IntKind.bits, IntKind.signed]; omega
def rowI (f : Nat → Int) (k : Nat) : List Value := (List.range k).map fun i => .int .i64 (f i)
theorem rowI_succ (f : Nat → Int) (k : Nat) : rowI f (k + 1) = rowI f k ++ [.int .i64 (f k)] := by simp [rowI, List.range_succ]
theorem cell_one_at (w : World) (x : Value) (t : TypeId) : ∀ j u, [x][j]? = some u → (w.alloc (.cells #[x] t)).cell? ((⟨w.heap.size, 0, none⟩ : Addr).add j) = some u := by
  intro j u h
  have hh := heap_alloc_new w (.cells #[x] t)
  have e : ((⟨w.heap.size, 0, none⟩ : Addr).add j) = ⟨w.heap.size, j, none⟩ := by unfold Addr.add; split <;> simp_all
  rw [e]
  exact cell_of_heap hh (by simpa using h)
/-- The list of weights that made has put together. -/
def Listed (w : World) (f : Nat → Int) (k : Nat) (v : Value) (W : World) : Prop := W.ownsRow w.heap.size 2 1 v k (rowI f k) ∧ Below w.heap.size w W
theorem Listed.next {w W W' : World} {f : Nat → Int} {k : Nat} {v v' : Value} (h : Listed w f k v W) {o : Obj} (h1 : W'.ownsRow w.heap.size 2 1 v' (k + 1) (rowI f k ++ [.int .i64 (f k)])) (hg : (W.alloc o).grownBy W' v.ownBlock) : Listed w f (k + 1) v' W' := by
  obtain ⟨h1', h2⟩ := h
  refine ⟨by rw [rowI_succ]; exact h1, (h2.alloc h2.size o).grown hg (by rw [World.size_alloc]; have := h2.size; omega) fun j hj => ?_⟩
  obtain ⟨_, ⟨rfl, rfl⟩ | ⟨g, cap, cur, rfl, hgb, _⟩⟩ := h1'
  · simp [Value.ownBlock] at hj
  · simp [Value.ownBlock] at hj; omega
theorem ints_keep {w W : World} {A : Option Addr} {n : Nat} {f : Nat → Int} {k : IntKind} (h : IntsIn w k A n f) (hb : Below w.heap.size w W) : IntsIn W k A n f := h.only (only_of_below' hb)

/-- What made ends in. -/
def MadePost (n : Nat) (f : Nat → Int) (w : World) (e : Ending) (w' : World) : Prop := ∃ F T v, e = .returned (.tuple #[.pointer (some ⟨T, 0, none⟩), v]) ∧ OwnTal w w' F T (min n 60) id (wtOf f) ∧ ∃ A' c', v = .slice A' (min n 60) c' ∧ IntsIn w' .i64 A' (min n 60) f ∧ ∃ W0, Only [] w W0 ∧ OwnTal W0 w' F T (min n 60) id (wtOf f) ∧ IntsIn W0 .i64 A' (min n 60) f
theorem code_u16 {n : Nat} {f : Nat → Int} (hw : ∀ j, j < n → 0 ≤ f j ∧ f j ≤ 65535) (hn : n ≤ 60) : newCode n f = 0 := by
  refine newCode_ok (by omega) (fun j hj => ⟨(hw j hj).1, by have := (hw j hj).2; omega⟩) ?_
  have : total n (wtOf f) ≤ total n (fun _ => 65535) := total_le fun a ha => by have := hw a ha; unfold wtOf; omega
  have h2 : ∀ m, total m (fun _ => 65535) = m * 65535 := fun m => by
    induction m with
    | zero => rfl
    | succ m ih => simp only [total, ih]; omega
  rw [h2] at this
  omega
end Go.Proofs.Ytipgbbhgmoehfaa

/-
  The law's own helper unite.
-/
namespace Go.Proofs.Ytipgbbhgmoehfaa
open Go.RowKit
set_option linter.unusedSimpArgs false
set_option linter.unusedSectionVars false

theorem wf_u8 {n : Int} (h : (Lit.int .u8 n).wf = true) : 0 ≤ n ∧ n ≤ 255 := by simpa [Lit.wf, IntKind.min, IntKind.max, IntKind.bits, IntKind.signed] using h
/-- A list of pairs of numbers of one kind, as it lies in memory. -/
structure PairsIn (w : World) (k : IntKind) (A : Option Addr) (n : Nat) (f g : Nat → Int) : Prop where
  row : 0 < n → ∃ b off, A = some ⟨b, off, none⟩ ∧ b < w.heap.size ∧ ∀ j, j < n → w.cell? ⟨b, off + j * 2, none⟩ = some (.int k (f j)) ∧ w.cell? ⟨b, off + j * 2 + 1, none⟩ = some (.int k (g j))
  wf : ∀ j, j < n → (Lit.int k (f j)).wf = true ∧ (Lit.int k (g j)).wf = true
  len : n ≤ maxLen
theorem PairsIn.only {w w' : World} {k : IntKind} {A : Option Addr} {n : Nat} {f g : Nat → Int} (h : PairsIn w k A n f g) (hO : Only [] w w') : PairsIn w' k A n f g :=
  ⟨fun hn => by
    obtain ⟨b, off, hA, hb, hc⟩ := h.row hn
    exact ⟨b, off, hA, Nat.lt_of_lt_of_le hb hO.size, fun j hj => ⟨(World.cell?_of_block (w := w) (hO.block b hb (by simp))).trans (hc j hj).1, (World.cell?_of_block (w := w) (hO.block b hb (by simp))).trans (hc j hj).2⟩⟩, h.wf, h.len⟩
theorem PairsIn.cell {w : World} {k : IntKind} {A : Option Addr} {n : Nat} {f g : Nat → Int} (h : PairsIn w k A n f g) {j : Nat} (hj : j < n) : ∃ b off, A = some ⟨b, off, none⟩ ∧ w.cell? ⟨b, off + j * 2, none⟩ = some (.int k (f j)) ∧ w.cell? ⟨b, off + j * 2 + 1, none⟩ = some (.int k (g j)) := by
  obtain ⟨b, off, hA, _, hc⟩ := h.row (by omega)
  exact ⟨b, off, hA, hc j hj⟩

/-- What is done to a tally. -/
structure Moves (W : World) (F : List Nat) (W' : World) (F' : List Nat) : Prop where
  only : Only F W W'
  grew : Grew W F F'
theorem Moves.refl (W : World) (F : List Nat) : Moves W F W F := ⟨Only.refl _ _, fun _ h => .inl h⟩
theorem Moves.trans {A B C : World} {F G H : List Nat} (h : Moves A F B G) (k : Moves B G C H) : Moves A F C H := by
  refine ⟨h.only.to k.only fun i hi hlt => ?_, fun j hj => ?_⟩
  · rcases h.grew i hi with hf | hf
    · exact hf
    · omega
  · rcases k.grew j hj with hf | hf
    · exact h.grew j hf
    · exact .inr (Nat.le_trans h.only.size hf)
theorem Moves.quiet {A B C : World} {F G : List Nat} (h : Moves A F B G) (k : Only [] B C) : Moves A F C G := ⟨h.only.trans (k.mono fun _ m => by simp at m), h.grew⟩
theorem OwnTal.moves {w W W' : World} {F F' : List Nat} {A n : Nat} {lab lab' wt : Nat → Nat} (h : OwnTal w W F A n lab wt) (ht : TalAt W' F' A n lab' wt) (m : Moves W F W' F') : OwnTal w W' F' A n lab' wt := h.step ht m.only m.grew

/-- The unions that unite makes, in their order. -/
def pr (n : Nat) (f g : Nat → Int) (i : Nat) : Nat × Nat := ((f i % n).toNat, (g i % n).toNat)
def cntU (n m : Nat) : Nat := if n = 0 then 0 else min m 200
def prs (n m : Nat) (f g : Nat → Int) : List (Nat × Nat) := (List.range (cntU n m)).map (pr n f g)
def idxU (c : Nat) (back : Bool) (k : Nat) : Nat := if back then c - 1 - k else k
def ordU (n m : Nat) (f g : Nat → Int) (back : Bool) (k : Nat) : List (Nat × Nat) := (List.range k).map fun i => pr n f g (idxU (cntU n m) back i)
theorem ordU_succ (n m : Nat) (f g : Nat → Int) (back : Bool) (k : Nat) : ordU n m f g back (k + 1) = ordU n m f g back k ++ [pr n f g (idxU (cntU n m) back k)] := by simp [ordU, List.range_succ]
theorem ordU_fold (n m : Nat) (f g : Nat → Int) (back : Bool) (lab : Nat → Nat) : (ordU n m f g back (cntU n m)).foldl uni lab = (prs n m f g).foldl uni lab := by
  cases back with
  | false => rfl
  | true =>
    rw [← foldl_reverse (prs n m f g)]
    congr 1
    unfold ordU prs idxU
    refine List.ext_getElem (by simp) fun i h1 h2 => ?_
    simp at h1
    simp [h1]
theorem ordU_lt {n m : Nat} {f g : Nat → Int} {back : Bool} {k : Nat} (hn : 0 < n) : ∀ p ∈ ordU n m f g back k, p.1 < n ∧ p.2 < n := by
  intro p hp
  obtain ⟨i, _, rfl⟩ := List.mem_map.1 hp
  unfold pr
  have h1 := Int.emod_lt_of_pos (f (idxU (cntU n m) back i)) (show (0 : Int) < n by omega)
  have h2 := Int.emod_lt_of_pos (g (idxU (cntU n m) back i)) (show (0 : Int) < n by omega)
  have h3 := Int.emod_nonneg (f (idxU (cntU n m) back i)) (show (n : Int) ≠ 0 by omega)
  have h4 := Int.emod_nonneg (g (idxU (cntU n m) back i)) (show (n : Int) ≠ 0 by omega)
  constructor <;> simp only <;> omega
theorem prs_lt {n m : Nat} {f g : Nat → Int} : ∀ p ∈ prs n m f g, p.1 < n ∧ p.2 < n := by
  by_cases hn : 0 < n
  · exact ordU_lt (n := n) (m := m) (f := f) (g := g) (back := false) (k := cntU n m) hn
  · obtain rfl : n = 0 := by omega
    intro p hp
    simp [prs, cntU] at hp

theorem idx_back {n m k : Nat} (hn : 0 < n) (hk : k < cntU n m) : ∃ i, idxU (cntU n m) true k = i ∧ i < m ∧
    ((m < 200 ∧ (m : Int) - 1 - (k : Int) = (i : Int) ∧ True) ∨ (200 < m ∧ (199 : Int) - (k : Int) = (i : Int) ∧ True) ∨ ((m ≤ 200 ∧ 200 ≤ m) ∧ (m : Int) - 1 - (k : Int) = (i : Int) ∧ (199 : Int) - (k : Int) = (i : Int))) := by
  have hm : cntU n m = min m 200 := by unfold cntU; rw [if_neg (by omega)]
  rw [hm] at hk ⊢
  refine ⟨_, rfl, ?_⟩
  unfold idxU
  rw [if_pos rfl]
  rcases Nat.le_total m 200 with hle | hle
  · rw [Nat.min_eq_left hle] at hk ⊢
    refine ⟨by omega, ?_⟩
    by_cases e : m = 200
    · exact .inr (.inr ⟨by omega, by omega, by omega⟩)
    · exact .inl ⟨by omega, by omega, trivial⟩
  · rw [Nat.min_eq_right hle] at hk ⊢
    refine ⟨by omega, ?_⟩
    by_cases e : m = 200
    · exact .inr (.inr ⟨by omega, by omega, by omega⟩)
    · exact .inr (.inl ⟨by omega, by omega, trivial⟩)

/-- How unite ends. -/
def Uni (n : Nat) (lab lab' : Nat → Nat) (A : Nat) (wt : Nat → Nat) (W : World) (F : List Nat) (e : Ending) (w' : World) : Prop := e = .returned (.int .i64 ((roots n lab : Int) - roots n lab')) ∧ ∃ F', TalAt w' F' A n lab' wt ∧ Moves W F w' F'

/-- The state of the loop. -/
def UniAt (n m : Nat) (f g : Nat → Int) (back : Bool) (k : Nat) (lab : Nat → Nat) (A : Nat) (wt : Nat → Nat) (W : World) (F : List Nat) (wr : World) : Prop := ∃ F', TalAt wr F' A n ((ordU n m f g back k).foldl uni lab) wt ∧ Moves W F wr F'
theorem UniAt.next {n m : Nat} {f g : Nat → Int} {back : Bool} {k : Nat} {lab : Nat → Nat} {A : Nat} {wt : Nat → Nat} {W : World} {F : List Nat} {wr : World} (h : UniAt n m f g back k lab A wt W F wr) (hn : 0 < n) {a b : Nat} (hp : pr n f g (idxU (cntU n m) back k) = (a, b)) :
    Calls Try.prog 58 #[.pointer (some ⟨A, 0, none⟩), .int .i64 a, .int .i64 b] wr.drew fun e w' => e = .returned (.tuple #[.bool (decide (win ((ordU n m f g back k).foldl uni lab) (a, b) = 1)), .int .i64 0]) ∧ Hid (UniAt n m f g back (k + 1) lab A wt W F w') := by
  obtain ⟨F', ht, hm⟩ := h
  have hab := ordU_lt (m := m) (f := f) (g := g) (back := back) (k := k + 1) hn (pr n f g (idxU (cntU n m) back k)) (by rw [ordU_succ]; simp)
  rw [hp] at hab
  refine (TUnion (ht.keep ((Only.refl [] wr).drewN 1)) a b hab.1 hab.2).mono ?_
  rintro e w' ⟨rfl, F2, ht2, ho, hg⟩
  refine ⟨?_, Lib.hid ⟨F2, ?_, (hm.quiet ((Only.refl [] wr).drewN 1)).trans ⟨ho, hg⟩⟩⟩
  · congr 5
    rw [decide_eq_decide]
    unfold win
    split <;> simp [*]
  · rw [ordU_succ, List.foldl_append, hp]; exact ht2

end Go.Proofs.Ytipgbbhgmoehfaa

/-
  How an argument that is a slice of pairs or triples of numbers reads.
-/
namespace Go.Proofs.Ytipgbbhgmoehfaa
open Go.ChangeShapes Go.WideShapes Go.RowKit
set_option linter.unusedSimpArgs false

section
variable {H : Type} {enc : TypeId × Value → H} {P : Program} {W : World} {spare : Nat → Bool} {held : Bool}

theorem cells_ink {t e : TypeId} {A : Option Addr} {len cap c : Nat} {d : DataW H} {ps : List MemPlace} (ht : P.underlying t = some (.slice e)) (hc : P.cellsOf e = c) (h0 : 0 < c)
    (good : List Value → Prop) (hgood : ∀ fuel cs x, DataW.trod enc P W 0 spare held fuel e cs = some x → good cs ∧ cs.length = c)
    (h : DataW.Trod enc P W 0 spare held t (.slice A len cap) d ps) :
    len ≤ maxLen ∧ (0 < len → ∃ b off, A = some ⟨b, off, none⟩ ∧ b < W.heap.size ∧ ∀ j, j < len → ∃ cs, good cs ∧ ∀ i u, cs[i]? = some u → W.cell? ⟨b, off + j * c + i, none⟩ = some u) := by
  obtain ⟨fuel, hf⟩ := h
  rcases DataW.trod_slice ht hf with ⟨h1, _⟩ | ⟨a, len', cap', elems, rest, n, _, h1, h2, _, hl, hm, hlen, hel, _, _⟩
  · simp only [Value.cells] at h1
    obtain ⟨rfl, rfl, rfl⟩ : A = none ∧ len = 0 ∧ cap = 0 := by simpa using h1
    exact ⟨by unfold maxLen; omega, fun h => by omega⟩
  · simp only [Value.cells] at h1
    obtain ⟨rfl, rfl, rfl⟩ : A = some a ∧ len = len' ∧ cap = cap' := by simpa using h1
    refine ⟨by omega, fun hp => ?_⟩
    have each : ∀ j, j < len → ∃ cs, good cs ∧ cs.length = c ∧ ∀ i u, cs[i]? = some u → W.cell? ((a.add (j * c)).add i) = some u := by
      intro j hj
      have h3 := hel j hj
      rw [hc, List.getElem?_eq_getElem (by omega), Option.bind_eq_some_iff] at h3
      obtain ⟨cs, hcs, hx⟩ := h3
      obtain ⟨hg, hl2⟩ := hgood _ _ _ hx
      refine ⟨cs, hg, hl2, fun i u hu => ?_⟩
      have hi := (List.getElem?_eq_some_iff.1 hu).1
      rw [(World.cells?_some hcs).2.2 i (by omega)]
      exact hu
    obtain ⟨cs0, _, hl0, hv0⟩ := each 0 hp
    obtain ⟨u0, hu0⟩ : ∃ u, cs0[0]? = some u := ⟨_, List.getElem?_eq_getElem (by omega)⟩
    obtain ⟨hs, hb⟩ := cell_lt2 (hv0 0 u0 hu0)
    obtain ⟨b, off, sp⟩ := a
    have hs' : sp = none := by
      have e : ((⟨b, off, sp⟩ : Addr).add (0 * c)).add 0 = ⟨b, off, sp⟩ := by rw [Nat.zero_mul]; rfl
      rw [e] at hs
      exact hs
    subst hs'
    refine ⟨b, off, rfl, by rw [Nat.zero_mul] at hb; exact hb, fun j hj => ?_⟩
    obtain ⟨cs, hg, _, hv⟩ := each j hj
    refine ⟨cs, hg, fun i u hu => ?_⟩
    have := hv i u hu
    have e : ((⟨b, off, none⟩ : Addr).add (j * c)).add i = ⟨b, off + j * c + i, none⟩ := by
      unfold Addr.add
      split <;> split <;> simp_all
    rwa [e] at this

/-- Pairs: arrays of two numbers. -/
theorem pairs_arr (k : IntKind) {t e e2 : TypeId} {A : Option Addr} {len cap : Nat} {d : DataW H} {ps : List MemPlace} (ht : P.underlying t = some (.slice e)) (he : P.underlying e = some (.array 2 e2)) (hk : P.underlying e2 = some (.int k)) (hc : P.cellsOf e = 2) (hc2 : P.cellsOf e2 = 1)
    (h : DataW.Trod enc P W 0 spare held t (.slice A len cap) d ps) : ∃ f g, PairsIn W k A len f g := by
  obtain ⟨h1, h3⟩ := cells_ink ht hc (by omega) (fun cs => ∃ x y, cs = [.int k x, .int k y] ∧ (Lit.int k x).wf = true ∧ (Lit.int k y).wf = true) (fun fuel cs x hx => by
    obtain ⟨xs, m, _, _, hl, hlen, hf⟩ := DataW.trod_array he hx
    rw [hc] at hl
    have f0 := hf 0 (by omega)
    have f1 := hf 1 (by omega)
    rw [hc2] at f0 f1
    rw [List.getElem?_eq_getElem (by omega)] at f0 f1
    obtain ⟨x0, e0, _, w0⟩ := DataW.trod_int hk f0
    obtain ⟨x1, e1, _, w1⟩ := DataW.trod_int hk f1
    refine ⟨⟨x0, x1, ?_, w0, w1⟩, hl⟩
    match cs, hl with
    | [u, v], _ =>
      simp at e0 e1
      rw [e0, e1]) h
  by_cases h0 : 0 < len
  · obtain ⟨b, off, rfl, hb, hcell⟩ := h3 h0
    refine ⟨fun j => match W.cell? ⟨b, off + j * 2, none⟩ with | some (.int _ x) => x | _ => 0, fun j => match W.cell? ⟨b, off + j * 2 + 1, none⟩ with | some (.int _ x) => x | _ => 0, fun _ => ⟨b, off, rfl, hb, fun j hj => ?_⟩, fun j hj => ?_, h1⟩
    · obtain ⟨cs, ⟨x, y, rfl, _, _⟩, hv⟩ := hcell j hj
      have v0 := hv 0 _ rfl
      have v1 := hv 1 _ rfl
      rw [Nat.add_zero] at v0
      simp only [v0, v1]
      exact ⟨trivial, trivial⟩
    · obtain ⟨cs, ⟨x, y, rfl, wx, wy⟩, hv⟩ := hcell j hj
      have v0 := hv 0 _ rfl
      have v1 := hv 1 _ rfl
      rw [Nat.add_zero] at v0
      simp only [v0, v1]
      exact ⟨wx, wy⟩
  · exact ⟨fun _ => 0, fun _ => 0, fun h => absurd h h0, fun j hj => by omega, h1⟩
end

end Go.Proofs.Ytipgbbhgmoehfaa

/-
  How an argument that is a slice of structs of three numbers reads.
-/
namespace Go.Proofs.Ytipgbbhgmoehfaa
open Go.ChangeShapes Go.WideShapes Go.RowKit
set_option linter.unusedSimpArgs false

/-- A list of triples of numbers of one kind, as it lies in memory. -/
structure TripsIn (w : World) (k : IntKind) (A : Option Addr) (n : Nat) (u v x : Nat → Int) : Prop where
  row : 0 < n → ∃ b off, A = some ⟨b, off, none⟩ ∧ b < w.heap.size ∧ ∀ j, j < n → w.cell? ⟨b, off + j * 3, none⟩ = some (.int k (u j)) ∧ w.cell? ⟨b, off + j * 3 + 1, none⟩ = some (.int k (v j)) ∧ w.cell? ⟨b, off + j * 3 + 2, none⟩ = some (.int k (x j))
  wf : ∀ j, j < n → (Lit.int k (u j)).wf = true ∧ (Lit.int k (v j)).wf = true ∧ (Lit.int k (x j)).wf = true
  len : n ≤ maxLen
theorem TripsIn.edges {w : World} {A : Option Addr} {n : Nat} {u v x : Nat → Int} (h : TripsIn w .i64 A n u v x) : EdgesIn w A n u v x := ⟨h.row, h.wf, h.len⟩
theorem TripsIn.only {w w' : World} {k : IntKind} {A : Option Addr} {n : Nat} {u v x : Nat → Int} (h : TripsIn w k A n u v x) (hO : Only [] w w') : TripsIn w' k A n u v x :=
  ⟨fun hn => by
    obtain ⟨b, off, hA, hb, hc⟩ := h.row hn
    have e := fun i => World.cell?_of_block (w := w) (w' := w') (a := ⟨b, i, none⟩) (hO.block b hb (by simp))
    exact ⟨b, off, hA, Nat.lt_of_lt_of_le hb hO.size, fun j hj => ⟨(e _).trans (hc j hj).1, (e _).trans (hc j hj).2.1, (e _).trans (hc j hj).2.2⟩⟩, h.wf, h.len⟩
theorem TripsIn.cell {w : World} {k : IntKind} {A : Option Addr} {n : Nat} {u v x : Nat → Int} (h : TripsIn w k A n u v x) {j : Nat} (hj : j < n) : ∃ b off, A = some ⟨b, off, none⟩ ∧ b < w.heap.size ∧ w.cell? ⟨b, off + j * 3, none⟩ = some (.int k (u j)) ∧ w.cell? ⟨b, off + j * 3 + 1, none⟩ = some (.int k (v j)) ∧ w.cell? ⟨b, off + j * 3 + 2, none⟩ = some (.int k (x j)) := by
  obtain ⟨b, off, hA, hb, hc⟩ := h.row (by omega)
  exact ⟨b, off, hA, hb, hc j hj⟩

section
variable {H : Type} {enc : TypeId × Value → H} {P : Program} {W : World} {spare : Nat → Bool} {held : Bool}

theorem one_of {k : IntKind} {t : TypeId} {n i : Nat} {cs : List Value} {y : DataW H × List MemPlace} (ht : P.underlying t = some (.int k)) (h : DataW.trod enc P W 0 spare held n t ((cs.drop i).take 1) = some y) :
    ∃ z, cs[i]? = some (.int k z) ∧ (Lit.int k z).wf = true := by
  obtain ⟨z, h1, _, h2⟩ := DataW.trod_int ht h
  refine ⟨z, ?_, h2⟩
  have e : ((cs.drop i).take 1)[0]? = some (.int k z) := by rw [h1]; rfl
  rw [List.getElem?_take] at e
  simpa using e

/-- Structs of three numbers. -/
theorem trips_struct (k : IntKind) {t e : TypeId} {f0 f1 f2 : Field} {A : Option Addr} {len cap : Nat} {d : DataW H} {ps : List MemPlace} (ht : P.underlying t = some (.slice e)) (he : P.underlying e = some (.struct #[f0, f1, f2]))
    (hk : P.underlying f0.type = some (.int k) ∧ P.underlying f1.type = some (.int k) ∧ P.underlying f2.type = some (.int k)) (ho : f0.offset = 0 ∧ f1.offset = 1 ∧ f2.offset = 2) (hc : P.cellsOf e = 3) (hc1 : P.cellsOf f0.type = 1 ∧ P.cellsOf f1.type = 1 ∧ P.cellsOf f2.type = 1)
    (h : DataW.Trod enc P W 0 spare held t (.slice A len cap) d ps) : ∃ u v x, TripsIn W k A len u v x := by
  obtain ⟨h1, h3⟩ := cells_ink ht hc (by omega) (fun cs => ∃ x y z, cs = [.int k x, .int k y, .int k z] ∧ (Lit.int k x).wf = true ∧ (Lit.int k y).wf = true ∧ (Lit.int k z).wf = true) (fun fuel cs x hx => by
    obtain ⟨y0, y1, y2, m, _, hl, g0, g1, g2⟩ := Go.Deep.trod_struct3 he hx
    rw [hc] at hl
    rw [ho.1, hc1.1] at g0
    rw [ho.2.1, hc1.2.1] at g1
    rw [ho.2.2, hc1.2.2] at g2
    obtain ⟨x0, e0, w0⟩ := one_of hk.1 g0
    obtain ⟨x1, e1, w1⟩ := one_of hk.2.1 g1
    obtain ⟨x2, e2, w2⟩ := one_of hk.2.2 g2
    refine ⟨⟨x0, x1, x2, ?_, w0, w1, w2⟩, hl⟩
    match cs, hl with
    | [a, b, c], _ =>
      simp at e0 e1 e2
      rw [e0, e1, e2]) h
  by_cases h0 : 0 < len
  · obtain ⟨b, off, rfl, hb, hcell⟩ := h3 h0
    refine ⟨fun j => match W.cell? ⟨b, off + j * 3, none⟩ with | some (.int _ x) => x | _ => 0, fun j => match W.cell? ⟨b, off + j * 3 + 1, none⟩ with | some (.int _ x) => x | _ => 0, fun j => match W.cell? ⟨b, off + j * 3 + 2, none⟩ with | some (.int _ x) => x | _ => 0, fun _ => ⟨b, off, rfl, hb, fun j hj => ?_⟩, fun j hj => ?_, h1⟩
    · obtain ⟨cs, ⟨x, y, z, rfl, _, _, _⟩, hv⟩ := hcell j hj
      have v0 := hv 0 _ rfl
      have v1 := hv 1 _ rfl
      have v2 := hv 2 _ rfl
      rw [Nat.add_zero] at v0
      simp only [v0, v1, v2]
      exact ⟨trivial, trivial, trivial⟩
    · obtain ⟨cs, ⟨x, y, z, rfl, wx, wy, wz⟩, hv⟩ := hcell j hj
      have v0 := hv 0 _ rfl
      have v1 := hv 1 _ rfl
      have v2 := hv 2 _ rfl
      rw [Nat.add_zero] at v0
      simp only [v0, v1, v2]
      exact ⟨wx, wy, wz⟩
  · exact ⟨fun _ => 0, fun _ => 0, fun _ => 0, fun h => absurd h h0, fun j hj => by omega, h1⟩
end

end Go.Proofs.Ytipgbbhgmoehfaa
