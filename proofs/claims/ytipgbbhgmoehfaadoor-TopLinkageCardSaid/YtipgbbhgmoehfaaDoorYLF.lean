import Derived.Maps.AppendAt
import Derived.Test.YtipgbbhgmoehfaaDoorYTBa
import Derived.Test.YtipgbbhgmoehfaaDoorYLP
import Derived.Test.YtipgbbhgmoehfaaDoorZ5
/-
  lift.depths: the depth of each node of a forest.
-/
namespace Go.Proofs.YtipgbbhgmoehfaaDoor
open Go.RowKit
attribute [local go_sem] Oper.semAt_some
set_option linter.unusedSimpArgs false
set_option linter.unusedVariables false
set_option linter.unusedSectionVars false

theorem mk_lists (n : Nat) (hn : n ≤ 1000000) (w : World) : (Instr.makeSlice 114 (.int .i64 (n : Int)) (.int .i64 (n : Int))).run Tryd.prog w = .ok (.slice (some ⟨w.heap.size, 0, none⟩) n n) (w.alloc (.cells (madeCells #[.slice none 0 0] n) 31)) :=
  run_make_row' 114 31 (.slice none 0 0) 24 Tryd.underlying114 infoSl rfl .i64 .i64 n (by omega) (by omega) w
theorem made_lists {w : World} {g n : Nat} (h : w.heap[g]? = some (.cells (madeCells #[.slice none 0 0] n) 31 (0, 0))) : RowGe w g 31 n (fun _ => .slice none 0 0) := by
  obtain ⟨c, hc, r⟩ := World.rowIs_made w (.slice none 0 0) n 31
  rw [heap_alloc_new] at hc
  cases hc
  exact ⟨_, h, r.2⟩
theorem RowGe.cellv {w : World} {t : TypeId} {g n : Nat} {f : Nat → Value} (h : RowGe w g t n f) {i : Nat} (hi : i < n) : w.cell? ⟨g, i, none⟩ = some (f i) := by
  obtain ⟨c, hc, r⟩ := h
  exact cell_of_heap hc (r i hi)
theorem RowGe.fz {w : World} {t : TypeId} {g n : Nat} {f : Nat → Value} (h : RowGe w g t n f) (i : Nat) : w.frozen? ⟨g, i, none⟩ = false := by
  obtain ⟨c, hc, r⟩ := h
  exact frozen_of_heap hc
theorem RowGe.kept {w w' : World} {t : TypeId} {g n : Nat} {f : Nat → Value} (h : RowGe w g t n f) (hk : w'.heap[g]? = w.heap[g]?) : RowGe w' g t n f := by
  obtain ⟨c, hc, r⟩ := h
  exact ⟨c, hk.trans hc, r⟩
theorem RowGe.ltb {w : World} {t : TypeId} {g n : Nat} {f : Nat → Value} (h : RowGe w g t n f) : g < w.heap.size := by
  obtain ⟨c, hc, r⟩ := h
  exact heap_lt hc

/-- The lists of children, and the queue. -/
structure Kids (W : World) (CH DP s base : Nat) (vs : Nat → Value) (K : Nat → List Nat) (vq : Value) (Q : List Nat) (f : Nat → Int) : Prop where
  row : RowGe W CH 31 s vs
  own : ∀ p, p < s → W.ownsRow base 3 1 (vs p) (K p).length (natL (K p))
  apart : ∀ p q, p < s → q < s → p ≠ q → (vs p).ownBlock = none ∨ (vs p).ownBlock ≠ (vs q).ownBlock
  aparq : ∀ p, p < s → (vs p).ownBlock = none ∨ (vs p).ownBlock ≠ vq.ownBlock
  que : W.ownsRow base 3 1 vq Q.length (natL Q)
  dep : RowZ W 3 DP s f
  chb : CH < base
  dpb : DP < base
  ne : CH ≠ DP
theorem owns_app {W W' : World} {base : Nat} {v' : Value} {L : List Nat} {x : Nat} (h : W'.ownsRow base 3 1 v' (L.length + 1) (natL L ++ [.int .i64 x])) : W'.ownsRow base 3 1 v' (L ++ [x]).length (natL (L ++ [x])) := by
  rw [List.length_append]
  unfold natL at *
  rw [List.map_append]
  exact h
/-- The queue grows. -/
theorem Kids.push {W W' : World} {CH DP s base : Nat} {vs : Nat → Value} {K : Nat → List Nat} {vq v' : Value} {Q : List Nat} {f : Nat → Int} {x : Nat} {tmp : Obj} (h : Kids W CH DP s base vs K vq Q f)
    (hown : W'.ownsRow base 3 1 v' (Q.length + 1) (natL Q ++ [.int .i64 x])) (hg : (W.alloc tmp).grownBy W' vq.ownBlock) (hat : v'.ownBlock = vq.ownBlock ∨ v'.ownBlock = some (W.alloc tmp).heap.size) : Kids W' CH DP s base vs K v' (Q ++ [x]) f := by
  have blk : ∀ k, k < W.heap.size → k < base → W'.heap[k]? = W.heap[k]? := fun k hk hb => (hg.block k (by rw [World.size_alloc]; omega) (fun e => by have := (h.que.lt k e.symm).1; omega)).trans (heap_alloc_old _ _ hk)
  refine ⟨h.row.kept (blk _ h.row.ltb h.chb), fun p hp => ((h.own p hp).alloc tmp).kept hg (h.aparq p hp), h.apart, fun p hp => ?_, owns_app (W := W) hown, h.dep.same (blk _ h.dep.lt h.dpb), h.chb, h.dpb, h.ne⟩
  rcases hat with e | e
  · rw [e]; exact h.aparq p hp
  · rw [e]
    cases hv : (vs p).ownBlock with
    | none => exact .inl rfl
    | some k =>
      refine .inr fun e2 => ?_
      cases e2
      have := ((h.own p hp).lt _ hv).2
      rw [World.size_alloc] at this
      omega
/-- A child more. -/
theorem Kids.add {W W' : World} {CH DP s base : Nat} {vs : Nat → Value} {K : Nat → List Nat} {vq v' : Value} {Q : List Nat} {f : Nat → Int} {x y : Nat} {tmp : Obj} (h : Kids W CH DP s base vs K vq Q f) (hy : y < s)
    (hown : W'.ownsRow base 3 1 v' ((K y).length + 1) (natL (K y) ++ [.int .i64 x])) (hg : (W.alloc tmp).grownBy W' (vs y).ownBlock) (hat : v'.ownBlock = (vs y).ownBlock ∨ v'.ownBlock = some (W.alloc tmp).heap.size) :
    Kids (W'.setCell ⟨CH, y, none⟩ v') CH DP s base (fun p => if p = y then v' else vs p) (fun p => if p = y then K y ++ [x] else K p) vq Q f := by
  have hsz : W.heap.size + 1 ≤ W'.heap.size := by have := hg.size; rw [World.size_alloc] at this; exact this
  have blk : ∀ k, k < W.heap.size → k < base → W'.heap[k]? = W.heap[k]? := fun k hk hb => (hg.block k (by rw [World.size_alloc]; omega) (fun e => by have := ((h.own y hy).lt k e.symm).1; omega)).trans (heap_alloc_old _ _ hk)
  have old : ∀ k, k ≠ CH → (W'.setCell ⟨CH, y, none⟩ v').heap[k]? = W'.heap[k]? := fun k hk => heap_setCell_other W' ⟨CH, y, none⟩ k v' hk
  have set : ∀ {v : Value} {n : Nat} {xs : List Value}, W'.ownsRow base 3 1 v n xs → (W'.setCell ⟨CH, y, none⟩ v').ownsRow base 3 1 v n xs := fun {v n xs} ho => by
    obtain ⟨hl, h0 | ⟨g', cap, cur, hv, hb, hh, rest⟩⟩ := ho
    · exact ⟨hl, .inl h0⟩
    · exact ⟨hl, .inr ⟨g', cap, cur, hv, hb, (old g' (by have := h.chb; omega)).trans hh, rest⟩⟩
  have fresh : ∀ {v : Value} {n : Nat} {xs : List Value}, W.ownsRow base 3 1 v n xs → (v.ownBlock = none ∨ v.ownBlock ≠ (vs y).ownBlock) → v.ownBlock = none ∨ v.ownBlock ≠ v'.ownBlock := fun {v n xs} ho hn => by
    rcases hat with e | e
    · rw [e]; exact hn
    · rw [e]
      cases hv : v.ownBlock with
      | none => exact .inl rfl
      | some k =>
        refine .inr fun e2 => ?_
        cases e2
        have := (ho.lt _ hv).2
        rw [World.size_alloc] at this
        omega
  have nn : v'.ownBlock ≠ none := by
    rcases hown.2 with ⟨_, h0⟩ | ⟨g', cap, cur, hv, _⟩
    · omega
    · rw [hv]; simp [Value.ownBlock]
  refine ⟨?_, fun p hp => ?_, fun p q hp hq hpq => ?_, fun p hp => ?_, set ((h.que.alloc tmp).kept hg ?_), (h.dep.same (blk _ h.dep.lt h.dpb)).other (Ne.symm h.ne) _, h.chb, h.dpb, h.ne⟩
  · refine (RowGe.set (h.row.kept (blk _ h.row.ltb h.chb)) y v').congr fun i hi => ?_
    rfl
  · by_cases e : p = y
    · subst e
      rw [if_pos rfl, if_pos rfl]
      exact set (owns_app (W := W) hown)
    · rw [if_neg e, if_neg e]
      exact set (((h.own p hp).alloc tmp).kept hg (h.apart p y hp hy e))
  · by_cases e : p = y
    · subst e
      rw [if_pos rfl, if_neg (Ne.symm hpq)]
      rcases fresh (h.own q hq) (h.apart q p hq hp (Ne.symm hpq)) with h1 | h1
      · rw [h1]; exact .inr nn
      · exact .inr (Ne.symm h1)
    · rw [if_neg e]
      by_cases e2 : q = y
      · subst e2
        rw [if_pos rfl]
        exact fresh (h.own p hp) (h.apart p q hp hq e)
      · rw [if_neg e2]
        exact h.apart p q hp hq hpq
  · by_cases e : p = y
    · subst e
      rw [if_pos rfl]
      cases hq : vq.ownBlock with
      | none => exact .inr nn
      | some k =>
        have hqn : vq.ownBlock = none ∨ vq.ownBlock ≠ (vs p).ownBlock := by
          rcases h.aparq p hp with h1 | h1
          · rw [h1, hq]; exact .inr (by simp)
          · exact .inr (Ne.symm h1)
        rcases fresh h.que hqn with h1 | h1
        · rw [h1] at hq; cases hq
        · rw [← hq]; exact .inr (Ne.symm h1)
    · rw [if_neg e]
      exact h.aparq p hp
  · rcases h.aparq y hy with h1 | h1
    · rw [h1]
      cases hq : vq.ownBlock with
      | none => exact .inl rfl
      | some k => exact .inr (by simp)
    · exact .inr (Ne.symm h1)
/-- A depth more. -/
theorem Kids.deep {W : World} {CH DP s base : Nat} {vs : Nat → Value} {K : Nat → List Nat} {vq : Value} {Q : List Nat} {f : Nat → Int} (h : Kids W CH DP s base vs K vq Q f) (y : Nat) (x : Int) : Kids (W.setCell ⟨DP, y, none⟩ (.int .i64 x)) CH DP s base vs K vq Q (fun j => if j = y then x else f j) := by
  have old : ∀ k, k ≠ DP → (W.setCell ⟨DP, y, none⟩ (.int .i64 x)).heap[k]? = W.heap[k]? := fun k hk => heap_setCell_other W ⟨DP, y, none⟩ k _ hk
  have set : ∀ {v : Value} {n : Nat} {xs : List Value}, W.ownsRow base 3 1 v n xs → (W.setCell ⟨DP, y, none⟩ (.int .i64 x)).ownsRow base 3 1 v n xs := fun {v n xs} ho => by
    obtain ⟨hl, h0 | ⟨g', cap, cur, hv, hb, hh, rest⟩⟩ := ho
    · exact ⟨hl, .inl h0⟩
    · exact ⟨hl, .inr ⟨g', cap, cur, hv, hb, (old g' (by have := h.dpb; omega)).trans hh, rest⟩⟩
  exact ⟨h.row.kept (old _ h.ne), fun p hp => set (h.own p hp), h.apart, h.aparq, set h.que, h.dep.set y x, h.chb, h.dpb, h.ne⟩
theorem Kids.congr {W : World} {CH DP s base : Nat} {vs : Nat → Value} {K K' : Nat → List Nat} {vq : Value} {Q Q' : List Nat} {f f' : Nat → Int} (h : Kids W CH DP s base vs K vq Q f) (e1 : ∀ p, p < s → K p = K' p) (e2 : Q = Q') (e3 : ∀ i, i < s → f i = f' i) : Kids W CH DP s base vs K' vq Q' f' :=
  ⟨h.row, fun p hp => by rw [← e1 p hp]; exact h.own p hp, h.apart, h.aparq, e2 ▸ h.que, h.dep.congr e3, h.chb, h.dpb, h.ne⟩
theorem owns_nat {W : World} {base : Nat} {A : Option Addr} {n c : Nat} {L : List Nat} (h : W.ownsRow base 3 1 (.slice A n c) L.length (natL L)) : L.length = n ∧ ∀ (j y : Nat), L[j]? = some y → ∃ b off, A = some ⟨b, off, none⟩ ∧ W.cell? ⟨b, off + j, none⟩ = some (.int .i64 (y : Int)) := by
  obtain ⟨hl, ⟨e, h0⟩ | ⟨g, cap, cur, e, hb, hh, h1, h2, h3, ht⟩⟩ := h
  · cases e
    refine ⟨h0, fun j y hj => ?_⟩
    have := (List.getElem?_eq_some_iff.1 hj).1
    omega
  · cases e
    refine ⟨rfl, fun j y hj => ⟨g, 0, rfl, ?_⟩⟩
    have hlt := (List.getElem?_eq_some_iff.1 hj).1
    rw [Nat.zero_add]
    refine cell_of_heap hh ?_
    have e : (natL L)[j]? = some (.int .i64 (y : Int)) := by unfold natL; rw [List.getElem?_map, hj]; rfl
    rw [← ht, List.getElem?_take, if_pos (by omega)] at e
    simpa using e
theorem owns_slice {W : World} {base : Nat} {v : Value} {n : Nat} {xs : List Value} (h : W.ownsRow base 3 1 v n xs) : ∃ A c, v = .slice A n c := by
  obtain ⟨hl, ⟨e, h0⟩ | ⟨g, cap, cur, e, _⟩⟩ := h
  · exact ⟨none, 0, by rw [e, h0]⟩
  · exact ⟨_, cap, e⟩

end Go.Proofs.YtipgbbhgmoehfaaDoor
