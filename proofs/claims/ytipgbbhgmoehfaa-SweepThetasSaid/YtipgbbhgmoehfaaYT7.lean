import Derived.Test.YtipgbbhgmoehfaaYLR
import Derived.Test.YtipgbbhgmoehfaaYQ
import Derived.Test.YtipgbbhgmoehfaaYP
import Derived.Test.YtipgbbhgmoehfaaYU2
/-
  SweepLevels: the walk.
-/
namespace Go.Proofs.Ytipgbbhgmoehfaa
open Go.RowKit
attribute [local go_sem] Oper.semAt_some
set_option linter.unusedSimpArgs false
set_option linter.unusedSectionVars false

/-- Four numbers a level, as they lie in memory. -/
def Quads (W : World) (A : Option Addr) (r : Nat) (t a b c : Nat → Int) : Prop := 0 < r → ∃ g, A = some ⟨g, 0, none⟩ ∧ ∀ j, j < r → W.cell? ⟨g, j * 4, none⟩ = some (.int .i64 (t j)) ∧ W.cell? ⟨g, j * 4 + 1, none⟩ = some (.int .i64 (a j)) ∧ W.cell? ⟨g, j * 4 + 2, none⟩ = some (.int .i64 (b j)) ∧ W.cell? ⟨g, j * 4 + 3, none⟩ = some (.int .i64 (c j))
theorem Quads.only {W W' : World} {A : Option Addr} {r : Nat} {t a b c : Nat → Int} (h : Quads W A r t a b c) (hO : Only [] W W') : Quads W' A r t a b c := fun h0 => by
  obtain ⟨g, hA, hc⟩ := h h0
  have e : ∀ {i : Nat} {v : Value}, W.cell? ⟨g, i, none⟩ = some v → W'.cell? ⟨g, i, none⟩ = some v := fun {i v} h => (World.cell?_of_block (w := W) (w' := W') (a := ⟨g, i, none⟩) (hO.block g (cell_lt' h) (by simp))).trans h
  exact ⟨g, hA, fun j hj => ⟨e (hc j hj).1, e (hc j hj).2.1, e (hc j hj).2.2.1, e (hc j hj).2.2.2⟩⟩
theorem levT_get (n : Nat) (p q : Nat → Nat) (m : Nat) (x th : Nat → Int) : ∀ r j, j < r → (levT n p q m x th r)[j * 4]? = some (.int .i64 (th j)) ∧ (levT n p q m x th r)[j * 4 + 1]? = some (.int .i64 (levA n p q m x (th j))) ∧ (levT n p q m x th r)[j * 4 + 2]? = some (.int .i64 (levB n p q m x (th j))) ∧ (levT n p q m x th r)[j * 4 + 3]? = some (.int .i64 (levC n p q m x (th j)))
  | 0, j, h => by omega
  | r + 1, j, h => by
    have e : levT n p q m x th (r + 1) = levT n p q m x th r ++ [.int .i64 (th r), .int .i64 (levA n p q m x (th r)), .int .i64 (levB n p q m x (th r)), .int .i64 (levC n p q m x (th r))] := by
      unfold levT
      rw [List.range_succ, levV_append]
      rfl
    have hl := levT_len n p q m x th r
    rw [e]
    rcases Nat.lt_or_eq_of_le (Nat.le_of_lt_succ h) with hlt | rfl
    · rw [List.getElem?_append_left (by omega), List.getElem?_append_left (by omega), List.getElem?_append_left (by omega), List.getElem?_append_left (by omega)]
      exact levT_get n p q m x th r j hlt
    · rw [List.getElem?_append_right (by omega), List.getElem?_append_right (by omega), List.getElem?_append_right (by omega), List.getElem?_append_right (by omega), hl, Nat.sub_self, Nat.add_sub_cancel_left, Nat.add_sub_cancel_left, Nat.add_sub_cancel_left]
      exact ⟨rfl, rfl, rfl, rfl⟩
theorem quads_own {W : World} {base : Nat} {v : Value} {r n m : Nat} {p q : Nat → Nat} {x th : Nat → Int} (h : W.ownsRow base 41 4 v r (levT n p q m x th r)) : ∃ A cp, v = .slice A r cp ∧ Quads W A r th (fun j => levA n p q m x (th j)) (fun j => levB n p q m x (th j)) (fun j => levC n p q m x (th j)) := by
  cases r with
  | zero =>
    obtain ⟨_, ⟨rfl, _⟩ | ⟨g, cap, cur, rfl, _⟩⟩ := h
    · exact ⟨none, 0, rfl, fun h => by omega⟩
    · exact ⟨_, _, rfl, fun h => by omega⟩
  | succ r =>
    obtain ⟨g, cap, rfl⟩ := ownsRow_succ h
    have e : ∀ i u, (levT n p q m x th (r + 1))[i]? = some u → W.cell? ⟨g, i, none⟩ = some u := fun i u hu => by
      have := h.cells (g := g) rfl i u hu
      rwa [Addr.add_lit, Nat.zero_add] at this
    exact ⟨_, cap, rfl, fun _ => ⟨g, rfl, fun j hj => by
      obtain ⟨h1, h2, h3, h4⟩ := levT_get n p q m x th (r + 1) j hj
      exact ⟨e _ _ h1, e _ _ h2, e _ _ h3, e _ _ h4⟩⟩⟩
theorem nat_eq (f : Nat → Int) : nat f = fun j => (f j).toNat := rfl
/-- What Levels returns, whatever the world. -/
theorem lev_val (n : Int) (me : Nat) (u v x : Nat → Int) (k : Int) (hk : GCode n me u v k) : ∃ (r : Nat) (t a b c : Nat → Int), r ≤ 16384 ∧ ∀ w e w', (LevelsPost n me u v x w k e w' ∨ RLevelsPost n me u v x w k e w') →
    ∃ A cp, e = .returned (.tuple #[.slice A r cp, .int .i64 k]) ∧ Quads w' A r t a b c ∧ Only [] w w' := by
  by_cases h0 : k = 0
  · subst h0
    have hme := (gcode_ok hk).1.2.2
    by_cases hL : ∃ r th, Lev me x r th
    · obtain ⟨r, th, hL⟩ := hL
      have hr : r ≤ 16384 := by
        refine Nat.le_trans (pigeon me r (fun i => if hi : i < r then (hL.of i hi).choose else 0) (fun i hi => by simp only [dif_pos hi]; exact (hL.of i hi).choose_spec.1) fun i hi j hj e => ?_) hme
        simp only [dif_pos hi, dif_pos (show j < r by omega)] at e
        have h1 := (hL.of i hi).choose_spec.2
        have h2 := (hL.of j (by omega)).choose_spec.2
        rw [e] at h2
        have := hL.up j i hj hi
        omega
      refine ⟨r, th, fun j => levA n.toNat (nat u) (nat v) me x (th j), fun j => levB n.toNat (nat u) (nat v) me x (th j), fun j => levC n.toNat (nat u) (nat v) me x (th j), hr, ?_⟩
      rintro w e w' ((⟨h, _⟩ | ⟨_, o, vo, hb, rfl, hr, hO⟩) | (⟨h, _⟩ | ⟨_, r', th', vo, hL', rfl, hr, hO⟩))
      · exact absurd rfl h
      · obtain ⟨e1, e2⟩ := lev_same (n := n.toNat) (p := nat u) (q := nat v) hb hL
        rw [nat_eq, nat_eq] at e2
        rw [e1, e2] at hr
        obtain ⟨A, cp, rfl, hq⟩ := quads_own hr
        exact ⟨A, cp, rfl, hq, hO⟩
      · exact absurd rfl h
      · obtain rfl := hL.count hL'
        rw [← levT_congr fun i hi => hL.pt hL' i hi hi] at hr
        obtain ⟨A, cp, rfl, hq⟩ := quads_own hr
        exact ⟨A, cp, rfl, hq, hO⟩
    · refine ⟨0, fun _ => 0, fun _ => 0, fun _ => 0, fun _ => 0, by omega, ?_⟩
      rintro w e w' ((⟨h, _⟩ | ⟨_, o, vo, hb, _⟩) | (⟨h, _⟩ | ⟨_, r', th', vo, hL', _⟩))
      · exact absurd rfl h
      · exact absurd ⟨_, _, ends_lev hb⟩ hL
      · exact absurd rfl h
      · exact absurd ⟨_, _, hL'⟩ hL
  · refine ⟨0, fun _ => 0, fun _ => 0, fun _ => 0, fun _ => 0, by omega, ?_⟩
    rintro w e w' ((⟨_, rfl, hO⟩ | ⟨h, _⟩) | (⟨_, rfl, hO⟩ | ⟨h, _⟩))
    · exact ⟨_, _, rfl, fun h => by omega, hO⟩
    · exact absurd h h0
    · exact ⟨_, _, rfl, fun h => by omega, hO⟩
    · exact absurd h h0
end Go.Proofs.Ytipgbbhgmoehfaa
