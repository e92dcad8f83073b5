import Derived.Test.YtbafacdknaopjaaYLR
import Derived.Test.YtbafacdknaopjaaYQ
import Derived.Test.YtbafacdknaopjaaYP
import Derived.Test.YtbafacdknaopjaaYU2
/-
  SweepLevels: the walk.
-/
namespace Go.Proofs.Ytbafacdknaopjaa
open Go.RowKit
attribute [local go_sem] Oper.semAt_some
set_option linter.unusedSimpArgs false
set_option linter.unusedSectionVars false

/-- Four numbers a level, as they lie in memory. -/
def Quads (W : World) (A : Option Addr) (r : Nat) (t a b c : Nat → Int) : Prop := 0 < r → ∃ g, A = some ⟨g, 0, none⟩ ∧ ∀ j, j < r → W.cell? ⟨g, j * 4, none⟩ = some (.int .i64 (t j)) ∧ W.cell? ⟨g, j * 4 + 1, none⟩ = some (.int .i64 (a j)) ∧ W.cell? ⟨g, j * 4 + 2, none⟩ = some (.int .i64 (b j)) ∧ W.cell? ⟨g, j * 4 + 3, none⟩ = some (.int .i64 (c j))
theorem Quads.only {W W' : World} {A : Option Addr} {r : Nat} {t a b c : Nat → Int} (h : Quads W A r t a b c) (hO : Only [] W W') : Quads W' A r t a b c := fun h0 => by
  obtain ⟨g, hA, hc⟩ := h h0
  have e : ∀ {i : Nat} {v : Value}, W.cell? ⟨g, i, none⟩ = some v → W'.cell? ⟨g, i, none⟩ = some v := fun {i v} h => (World.cell?_of_block (w := W) (w' := W') (a := ⟨g, i, none⟩) (hO.block g (cell_lt' h) (by simp))).trans h
  exact ⟨g, hA, fun j hj => ⟨e (hc j hj).1, e (hc j hj).2.1, e (hc j hj).2.2.1, e (hc j hj).2.2.2⟩⟩
theorem levT_get (n : Nat) (p q : Nat → Nat) (m : Nat) (x th : Nat → Int) : ∀ r j, j < r → (levT n p q m x th r)[j * 4]? = some (.int .i64 (th j)) ∧ (levT n p q m x th r)[j * 4 + 1]? = some (.int .i64 (levA n p q m x (th j))) ∧ (levT n p q m x th r)[j * 4 + 2]? = some (.int .i64 (levB n p q m x (th j))) ∧ (levT n p q m x th r)[j * 4 + 3]? = some (.int .i64 (levC n p q m x (th j)))
  | 0, j, h => by omega
  | r + 1, j, h => by
    have e : levT n p q m x th (r + 1) = levT n p q m x th r ++ [.int .i64 (th r), .int .i64 (levA n p q m x (th r)), .int .i64 (levB n p q m x (th r)), .int .i64 (levC n p q m x (th r))] := by
      unfold levT
      rw [List.range_succ, levV_append]
      rfl
    have hl := levT_len n p q m x th r
    rw [e]
    rcases Nat.lt_or_eq_of_le (Nat.le_of_lt_succ h) with hlt | rfl
    · rw [List.getElem?_append_left (by omega), List.getElem?_append_left (by omega), List.getElem?_append_left (by omega), List.getElem?_append_left (by omega)]
      exact levT_get n p q m x th r j hlt
    · rw [List.getElem?_append_right (by omega), List.getElem?_append_right (by omega), List.getElem?_append_right (by omega), List.getElem?_append_right (by omega), hl, Nat.sub_self, Nat.add_sub_cancel_left, Nat.add_sub_cancel_left, Nat.add_sub_cancel_left]
      exact ⟨rfl, rfl, rfl, rfl⟩
theorem quads_own {W : World} {base : Nat} {v : Value} {r n m : Nat} {p q : Nat → Nat} {x th : Nat → Int} (h : W.ownsRow base 93 4 v r (levT n p q m x th r)) : ∃ A cp, v = .slice A r cp ∧ Quads W A r th (fun j => levA n p q m x (th j)) (fun j => levB n p q m x (th j)) (fun j => levC n p q m x (th j)) := by
  cases r with
  | zero =>
    obtain ⟨_, ⟨rfl, _⟩ | ⟨g, cap, cur, rfl, _⟩⟩ := h
    · exact ⟨none, 0, rfl, fun h => by omega⟩
    · exact ⟨_, _, rfl, fun h => by omega⟩
  | succ r =>
    obtain ⟨g, cap, rfl⟩ := ownsRow_succ h
    have e : ∀ i u, (levT n p q m x th (r + 1))[i]? = some u → W.cell? ⟨g, i, none⟩ = some u := fun i u hu => by
      have := h.cells (g := g) rfl i u hu
      rwa [Addr.add_lit, Nat.zero_add] at this
    exact ⟨_, cap, rfl, fun _ => ⟨g, rfl, fun j hj => by
      obtain ⟨h1, h2, h3, h4⟩ := levT_get n p q m x th (r + 1) j hj
      exact ⟨e _ _ h1, e _ _ h2, e _ _ h3, e _ _ h4⟩⟩⟩
theorem nat_eq (f : Nat → Int) : nat f = fun j => (f j).toNat := rfl
/-- What Levels returns, whatever the world. -/
theorem lev_val (n : Int) (me : Nat) (u v x : Nat → Int) (k : Int) (hk : GCode n me u v k) : ∃ (r : Nat) (t a b c : Nat → Int), r ≤ 16384 ∧ ∀ w e w', (LevelsPost n me u v x w k e w' ∨ RLevelsPost n me u v x w k e w') →
    ∃ A cp, e = .returned (.tuple #[.slice A r cp, .int .i64 k]) ∧ Quads w' A r t a b c ∧ Only [] w w' := by
  by_cases h0 : k = 0
  · subst h0
    have hme := (gcode_ok hk).1.2.2
    by_cases hL : ∃ r th, Lev me x r th
    · obtain ⟨r, th, hL⟩ := hL
      have hr : r ≤ 16384 := by
        refine Nat.le_trans (pigeon me r (fun i => if hi : i < r then (hL.of i hi).choose else 0) (fun i hi => by simp only [dif_pos hi]; exact (hL.of i hi).choose_spec.1) fun i hi j hj e => ?_) hme
        simp only [dif_pos hi, dif_pos (show j < r by omega)] at e
        have h1 := (hL.of i hi).choose_spec.2
        have h2 := (hL.of j (by omega)).choose_spec.2
        rw [e] at h2
        have := hL.up j i hj hi
        omega
      refine ⟨r, th, fun j => levA n.toNat (nat u) (nat v) me x (th j), fun j => levB n.toNat (nat u) (nat v) me x (th j), fun j => levC n.toNat (nat u) (nat v) me x (th j), hr, ?_⟩
      rintro w e w' ((⟨h, _⟩ | ⟨_, o, vo, hb, rfl, hr, hO⟩) | (⟨h, _⟩ | ⟨_, r', th', vo, hL', rfl, hr, hO⟩))
      · exact absurd rfl h
      · obtain ⟨e1, e2⟩ := lev_same (n := n.toNat) (p := nat u) (q := nat v) hb hL
        rw [nat_eq, nat_eq] at e2
        rw [e1, e2] at hr
        obtain ⟨A, cp, rfl, hq⟩ := quads_own hr
        exact ⟨A, cp, rfl, hq, hO⟩
      · exact absurd rfl h
      · obtain rfl := hL.count hL'
        rw [← levT_congr fun i hi => hL.pt hL' i hi hi] at hr
        obtain ⟨A, cp, rfl, hq⟩ := quads_own hr
        exact ⟨A, cp, rfl, hq, hO⟩
    · refine ⟨0, fun _ => 0, fun _ => 0, fun _ => 0, fun _ => 0, by omega, ?_⟩
      rintro w e w' ((⟨h, _⟩ | ⟨_, o, vo, hb, _⟩) | (⟨h, _⟩ | ⟨_, r', th', vo, hL', _⟩))
      · exact absurd rfl h
      · exact absurd ⟨_, _, ends_lev hb⟩ hL
      · exact absurd rfl h
      · exact absurd ⟨_, _, hL'⟩ hL
  · refine ⟨0, fun _ => 0, fun _ => 0, fun _ => 0, fun _ => 0, by omega, ?_⟩
    rintro w e w' ((⟨_, rfl, hO⟩ | ⟨h, _⟩) | (⟨_, rfl, hO⟩ | ⟨h, _⟩))
    · exact ⟨_, _, rfl, fun h => by omega, hO⟩
    · exact absurd h h0
    · exact ⟨_, _, rfl, fun h => by omega, hO⟩
    · exact absurd h h0
set_option maxRecDepth 100000 in
set_option maxHeartbeats 4000000 in
theorem sweepLevels_walk (n : Int) (E : Option Addr) (me ce : Nat) (u v x : Nat → Int) (w : World) (h : TripsIn w .i64 E me u v x) :
    Calls Try.prog 15 #[.int .i64 n, .slice E me ce] w fun e w' => e = .returned (.bool true) ∧ Below w.heap.size w w' := by
  refine Calls.mono (R := fun e w' => e = .returned (.bool true) ∧ Only [] w w') ?_ fun e w' h => ⟨h.1, h.2.toBelow⟩
  have HE := Lib.hid h.edges
  have CF := Lib.hid (few_any n E me ce w)
  obtain ⟨k, hk⟩ := gcode_is n me u v
  clear h
  go_enter Try.func15, Try.ntmps15
  go_wp2_with fail
  refine CF.out.mono ?_
  rintro e w' ⟨rfl, rfl⟩
  clear CF
  cases hfew : isFew n me with
  | false =>
    go_wp2_with fail
    refine (sworks_any _).mono ?_
    rintro e w1 ⟨rfl, hO⟩
    have HO := Lib.hid hO
    clear hO
    go_wp2_with fail
    go_ret
    exact ⟨rfl, HO.out⟩
  | true =>
    have hme : me ≤ 120 := by unfold isFew at hfew; exact (of_decide_eq_true hfew).2
    obtain ⟨r, t, a, b, c, hr, hval⟩ := lev_val n me u v x k hk
    have HV := Lib.hid hval
    have HK := Lib.hid hk
    clear hfew hval hk
    obtain ⟨A1, c1, w1, r1, hE1, hO1⟩ := copy_edges E me ce u v x w HE.out (by omega) 67
    have HE1 := Lib.hid hE1
    have HO1 := Lib.hid hO1
    clear hE1 hO1
    go_wp2_with (at_builtin; refine wpList_append_of rfl _ _ 67 rfl rfl rfl r1 ?_)
    have CA := Lib.hid (Levels_any n A1 me c1 u v x w1 HE1.out k HK.out)
    clear r1
    refine CA.out.mono ?_
    rintro e w2 hp
    obtain ⟨A2, c2, rfl, hq, hO2⟩ := HV.out _ _ _ (.inl hp)
    have HO2 := Lib.hid (HO1.out.trans hO2)
    have HQ := Lib.hid hq
    have HE2 := Lib.hid (HE1.out.only hO2)
    have CB := Lib.hid (RLevels_any n E me ce u v x w2 (HE.out.only HO2.out) k HK.out)
    clear hp hq hO2 CA HE1 HO1
    go_wp2_with fail
    refine CB.out.mono ?_
    rintro e w3 hp
    obtain ⟨A3, c3, rfl, hq, hO3⟩ := HV.out _ _ _ (.inr hp)
    have HO3 := Lib.hid (HO2.out.trans hO3)
    have HQ2 := Lib.hid (HQ.out.only hO3)
    have HQ3 := Lib.hid hq
    have CK := Lib.hid (lkept_true A1 E none none me 0 c1 ce 0 0 u v x (fun _ => 0) 0 w3 (HE2.out.only hO3) (HE.out.only HO3.out) ⟨fun h => by omega, fun j hj => by omega, by unfold maxLen; omega⟩ ⟨fun h => by omega, fun j hj => by omega, by unfold maxLen; omega⟩ (Nat.le_refl _) (by omega) (by omega))
    have qk : (k != k) = false := by simp
    clear hp hq hO3 CB HQ HE2 HO2
    go_wp2_with fail
    refine CK.out.mono ?_
    rintro e w4 ⟨rfl, hO4⟩
    have HO4 := Lib.hid (HO3.out.trans hO4)
    have HQ2 := Lib.hid (HQ2.out.only hO4)
    have HQ3 := Lib.hid (HQ3.out.only hO4)
    clear hO4 CK qk HO3
    go_wp2_with fail
    go_loopw [10] (fun i wr => ∃ j nn : Nat, j ≤ r ∧ i = .int .i64 j ∧ wr = w4.drewN nn) (fun i _ => r - (intOf i).toNat)
    case atStart => exact ⟨0, 0, Nat.zero_le _, rfl, rfl⟩
    case round =>
      obtain ⟨j, nn, hj, rfl, rfl⟩ := hrel
      by_cases hlt : j < r
      · obtain ⟨g2, rfl, k2⟩ := HQ2.out (by omega)
        obtain ⟨g3, rfl, k3⟩ := HQ3.out (by omega)
        obtain ⟨m0, m1, m2, m3⟩ := k2 j hlt
        obtain ⟨n0, n1, n2, n3⟩ := k3 j hlt
        have qn := fun W => level_neq (t j) (a j) (b j) (c j) (t j) (a j) (b j) (c j) W
        rw [decide_eq_true ⟨rfl, rfl, rfl, rfl⟩] at qn
        clear k2 k3
        go_wp2_with fail
        go_quiet (fail)
        go_wp2_with fail
        go_roundw
        case rel => exact ⟨j + 1, nn + nq, by omega, by go_num, rfl⟩
        case measure => simp [intOf]; omega
      · obtain rfl : j = r := by omega
        go_wp2_with fail
        refine (sworks_any _).mono ?_
        rintro e w7 ⟨rfl, hO7⟩
        have HO7 := Lib.hid ((HO4.out.drewN nn).trans hO7)
        clear hO7
        go_wp2_with fail
        go_ret
        exact ⟨rfl, HO7.out⟩

end Go.Proofs.Ytbafacdknaopjaa
