import Derived.BigQuiet
import Derived.Deep.RegionLaw
import Derived.Test.YtipgbbhgmoehfaaYK3
import Derived.Test.YtipgbbhgmoehfaaYM
import Derived.Test.YtipgbbhgmoehfaaYQ
import Derived.Test.YtipgbbhgmoehfaaYE3
/-
  The reference of chapter 27: Levels.
-/
namespace Go.Proofs.Ytipgbbhgmoehfaa
open Go.RowKit
attribute [local go_sem] Oper.semAt_some
set_option linter.unusedSimpArgs false
set_option linter.unusedSectionVars false

/-- What the reference's Levels returns. -/
def RLevelsPost (n : Int) (me : Nat) (u v x : Nat → Int) (w : World) (k : Int) (e : Ending) (w' : World) : Prop :=
  (k ≠ 0 ∧ e = .returned (.tuple #[.slice none 0 0, .int .i64 k]) ∧ Only [] w w') ∨
    (k = 0 ∧ ∃ r th vo, Lev me x r th ∧ e = .returned (.tuple #[vo, .int .i64 0]) ∧ w'.ownsRow w.heap.size 41 4 vo r (levT n.toNat (nat u) (nat v) me x th r) ∧ Only [] w w')
/-- The lists that grow. -/
structure LvI (w : World) (vs : Value) (l : List Nat) (u v x : Nat → Int) (vo : Value) (r : Nat) (ys : List Value) (wr : World) : Prop where
  some : wr.ownsRow w.heap.size 43 3 vs l.length (edgesOf u v x l)
  out : wr.ownsRow w.heap.size 41 4 vo r ys
  bel : Below w.heap.size w wr
theorem LvI.only {w : World} {vs vo : Value} {l : List Nat} {u v x : Nat → Int} {r : Nat} {ys : List Value} {wr W : World} (h : LvI w vs l u v x vo r ys wr) (k : Only [] wr W) : LvI w vs l u v x vo r ys W :=
  ⟨owns_only h.some k, owns_only h.out k, h.bel.trans (k.toBelow.mono h.bel.size)⟩
theorem LvI.next {w : World} {vs vo v' : Value} {l : List Nat} {u v x : Nat → Int} {r : Nat} {ys : List Value} {wr W' : World} {tmp : Obj} {j : Nat} (h : LvI w vs l u v x vo r ys wr)
    (hown : W'.ownsRow w.heap.size 43 3 v' (l.length + 1) (edgesOf u v x l ++ [.int .i64 (u j), .int .i64 (v j), .int .i64 (x j)])) (hg : (wr.alloc tmp).grownBy W' vs.ownBlock) : LvI w v' (l ++ [j]) u v x vo r ys W' :=
  ⟨by rw [List.length_append, edgesOf_append]; exact hown, owns_apart h.some hg h.out (by decide), below_append h.bel h.some hg⟩
/-- The least weight above, among the first i. -/
def NextI (x : Nat → Int) (r : Nat) (th : Nat → Int) (i : Nat) (y : Int) : Prop :=
  (y = -1 ∧ ∀ j, j < i → ¬ (r = 0 ∨ th (r - 1) < x j)) ∨ (∃ nx : Nat, y = nx ∧ nx < i ∧ (r = 0 ∨ th (r - 1) < x nx) ∧ ∀ j, j < i → (r = 0 ∨ th (r - 1) < x j) → x nx ≤ x j)
theorem NextI.skip {x : Nat → Int} {r : Nat} {th : Nat → Int} {i : Nat} {y : Int} (h : NextI x r th i y) (hn : ¬ (r = 0 ∨ th (r - 1) < x i)) : NextI x r th (i + 1) y := by
  rcases h with ⟨h1, h2⟩ | ⟨nx, h1, h2, h3, h4⟩
  · exact .inl ⟨h1, fun j hj => by
      rcases Nat.lt_or_eq_of_le (Nat.le_of_lt_succ hj) with hl | rfl
      · exact h2 j hl
      · exact hn⟩
  · exact .inr ⟨nx, h1, by omega, h3, fun j hj hb => by
      rcases Nat.lt_or_eq_of_le (Nat.le_of_lt_succ hj) with hl | rfl
      · exact h4 j hl hb
      · exact absurd hb hn⟩
theorem NextI.first {x : Nat → Int} {r : Nat} {th : Nat → Int} {i : Nat} (h : NextI x r th i (-1)) (hn : r = 0 ∨ th (r - 1) < x i) : NextI x r th (i + 1) i := by
  rcases h with ⟨_, h2⟩ | ⟨nx, h1, _⟩
  · exact .inr ⟨i, rfl, by omega, hn, fun j hj hb => by
      rcases Nat.lt_or_eq_of_le (Nat.le_of_lt_succ hj) with hl | rfl
      · exact absurd hb (h2 j hl)
      · exact Int.le_refl _⟩
  · omega
theorem NextI.less {x : Nat → Int} {r : Nat} {th : Nat → Int} {i nx : Nat} (h : NextI x r th i nx) (hn : r = 0 ∨ th (r - 1) < x i) (hl : x i < x nx) : NextI x r th (i + 1) i := by
  rcases h with ⟨h1, _⟩ | ⟨nx', h1, h2, h3, h4⟩
  · omega
  · obtain rfl : nx = nx' := Int.ofNat.inj h1
    exact .inr ⟨i, rfl, by omega, hn, fun j hj hb => by
      rcases Nat.lt_or_eq_of_le (Nat.le_of_lt_succ hj) with hl | rfl
      · have := h4 j hl hb; omega
      · exact Int.le_refl _⟩
theorem NextI.more {x : Nat → Int} {r : Nat} {th : Nat → Int} {i nx : Nat} (h : NextI x r th i nx) (hl : ¬ x i < x nx) : NextI x r th (i + 1) nx := by
  rcases h with ⟨h1, _⟩ | ⟨nx', h1, h2, h3, h4⟩
  · omega
  · obtain rfl : nx = nx' := Int.ofNat.inj h1
    exact .inr ⟨nx, rfl, by omega, h3, fun j hj hb => by
      rcases Nat.lt_or_eq_of_le (Nat.le_of_lt_succ hj) with hl | rfl
      · exact h4 j hl hb
      · omega⟩
theorem levT_last (n : Nat) (p q : Nat → Nat) (m : Nat) (x th : Nat → Int) (r : Nat) : (levT n p q m x th (r + 1))[r * 4]? = some (.int .i64 (th r)) := by
  have e : levT n p q m x th (r + 1) = levT n p q m x th r ++ [.int .i64 (th r), .int .i64 (levA n p q m x (th r)), .int .i64 (levB n p q m x (th r)), .int .i64 (levC n p q m x (th r))] := by
    unfold levT
    rw [List.range_succ, levV_append]
    rfl
  rw [e, List.getElem?_append_right (by rw [levT_len]; exact Nat.le_refl _), levT_len, Nat.sub_self]
  rfl
/-- Where the last threshold lies. -/
def LastIn (W : World) (vo : Value) (r : Nat) (th : Nat → Int) : Prop := (r = 0 ∧ vo = .slice none 0 0) ∨ (∃ r' g c, r = r' + 1 ∧ vo = .slice (some ⟨g, 0, none⟩) (r' + 1) c ∧ W.cell? ⟨g, r' * 4, none⟩ = some (.int .i64 (th r')))
theorem lastIn_of {W : World} {base : Nat} {vo : Value} {r n m : Nat} {p q : Nat → Nat} {x th : Nat → Int} (h : W.ownsRow base 41 4 vo (r + 1) (levT n p q m x th (r + 1))) : LastIn W vo (r + 1) th := by
  obtain ⟨g, c, rfl⟩ := ownsRow_succ h
  refine .inr ⟨r, g, c, rfl, rfl, ?_⟩
  have := h.cells (g := g) rfl (r * 4) _ (levT_last n p q m x th r)
  rwa [Addr.add_lit, Nat.zero_add] at this
theorem GoodE.nat {N : Nat} {u v : Nat → Int} {j : Nat} (h : GoodE N u v j) : u j = nat u j ∧ v j = nat v j ∧ nat u j < N ∧ nat v j < N := by
  unfold GoodE InE at h
  unfold Go.Proofs.Ytipgbbhgmoehfaa.nat
  omega

theorem plain_one {W : World} {base : Nat} {vo : Value} {a b c : Int} (h : W.ownsRow base 39 3 vo 1 (edgesL (fun _ => a) (fun _ => b) (fun _ => c) 1)) : ∃ g cap, vo = .slice (some ⟨g, 0, none⟩) 1 cap ∧ W.cell? ⟨g, 0, none⟩ = some (.int .i64 a) ∧ W.cell? ⟨g, 1, none⟩ = some (.int .i64 b) ∧ W.cell? ⟨g, 2, none⟩ = some (.int .i64 c) := by
  obtain ⟨g, cap, rfl⟩ := ownsRow_succ h
  have e : ∀ i v, (edgesL (fun _ => a) (fun _ => b) (fun _ => c) 1)[i]? = some v → W.cell? ⟨g, i, none⟩ = some v := fun i v hv => by
    have := h.cells (g := g) rfl i v hv
    rwa [Addr.add_lit, Nat.zero_add] at this
  exact ⟨g, cap, rfl, e 0 _ rfl, e 1 _ rfl, e 2 _ rfl⟩
theorem cell_grown {W w5 : World} {tmp : Obj} {base e size n : Nat} {v : Value} {xs : List Value} {b i : Nat} {y : Value} (hg : (W.alloc tmp).grownBy w5 v.ownBlock) (hown : W.ownsRow base e size v n xs) (hb : b < base) (h : W.cell? ⟨b, i, none⟩ = some y) : w5.cell? ⟨b, i, none⟩ = some y := by
  have hl := cell_lt' h
  refine (World.cell?_of_block (w := W) (w' := w5) (a := ⟨b, i, none⟩) ?_).trans h
  rw [hg.block b (by rw [World.size_alloc]; exact Nat.lt_succ_of_lt hl) (fun e' => by have := (hown.lt b e'.symm).1; omega), heap_alloc_old _ _ hl]
end Go.Proofs.Ytipgbbhgmoehfaa
