import Derived.Test.YtipgbbhgmoehfaaDoorYLU
/-
  lift: Common.
-/
namespace Go.Proofs.YtipgbbhgmoehfaaDoor
open Go.RowKit Go.Shelf
attribute [local go_sem] Oper.semAt_some
set_option linter.unusedSimpArgs false
set_option linter.unusedVariables false
set_option linter.unusedSectionVars false

theorem Near.start {par : Nat → Int} {s u v lv a b : Nat} (hu : Up par s) (hs : s ≤ 8192) (hun : u < s) (hvn : v < s) (h1 : ∀ k, anc par k v ≠ (u : Int)) (h2 : ∀ k, anc par k u ≠ (v : Int))
    (hl : min (dep par s u) (dep par s v) = lv) (ea : anc par (dep par s u - lv) u = (a : Int)) (ha : a < s) (eb : anc par (dep par s v - lv) v = (b : Int)) (hb : b < s) : Near par s u v 13 a b := by
  obtain ⟨x, ex, _, dx⟩ := (anc_dep hu hun (dep par s u - lv)).1 (by omega)
  obtain ⟨y, ey, _, dy⟩ := (anc_dep hu hvn (dep par s v - lv)).1 (by omega)
  obtain rfl : x = a := by omega
  obtain rfl : y = b := by omega
  refine ⟨ha, hb, ⟨_, ea⟩, ⟨_, eb⟩, fun e => ?_, by omega, ?_⟩
  · subst e
    by_cases hc : dep par s u ≤ dep par s v
    · rw [show dep par s u - lv = 0 by omega] at ea
      have : ((u : Nat) : Int) = (x : Int) := ea
      exact h1 _ (eb.trans this.symm)
    · rw [show dep par s v - lv = 0 by omega] at eb
      have : ((v : Nat) : Int) = (x : Int) := eb
      exact h2 _ (ea.trans this.symm)
  · have d1 := dep_lt hu (s - x) x ha (Nat.le_refl _)
    have d2 := dep_lt hu (s - y) y hb (Nat.le_refl _)
    rw [(anc_dep hu ha (2 ^ 13)).2 (by omega), (anc_dep hu hb (2 ^ 13)).2 (by omega)]

set_option maxRecDepth 100000 in
set_option maxHeartbeats 4000000 in
theorem Common_any {w : World} {TB DP s : Nat} {J : Nat → Nat} {par : Nat → Int} (t : Table w TB DP s J 13 par) (hu : Up par s) (hs : s ≤ 8192) (hT : Tab w) (u v : Nat) (hun : u < s) (hvn : v < s)
    (h1 : ∀ k, anc par k v ≠ (u : Int)) (h2 : ∀ k, anc par k u ≠ (v : Int)) :
    Calls Tryd.prog 35 #[.pointer (some ⟨TB, 0, none⟩), .int .i64 u, .int .i64 v] w fun e w' => ∃ a b : Nat, Near par s u v 0 a b ∧ Only [] w w' ∧
      e = .returned (.tuple #[.int .i64 (if par a < 0 then 0 else par a), .bool (!decide (par a < 0))]) := by
  have CHu := Lib.hid (fun W (hO : Only [] w W) => Lhas_any (t.only hO (by simp) (by simp) (fun _ _ => by simp)) u hun)
  have CHv := Lib.hid (fun W (hO : Only [] w W) => Lhas_any (t.only hO (by simp) (by simp) (fun _ _ => by simp)) v hvn)
  obtain ⟨lv, hlv⟩ : ∃ lv, min (dep par s u) (dep par s v) = lv := ⟨_, rfl⟩
  have CUu := Lib.hid (fun W (hO : Only [] w W) => Up_any (t.only hO (by simp) (by simp) (fun _ _ => by simp)) hu hs (hT.only hO (by simp)) u (dep par s u - lv) hun (by omega))
  have CUv := Lib.hid (fun W (hO : Only [] w W) => Up_any (t.only hO (by simp) (by simp) (fun _ _ => by simp)) hu hs (hT.only hO (by simp)) v (dep par s v - lv) hvn (by omega))
  have HS := Lib.hid (fun a b => Near.start (a := a) (b := b) hu hs hun hvn h1 h2 hlv)
  have f1 := t.head.cellv (i := 1) (by omega)
  replace f1 : w.cell? ⟨TB, 1, none⟩ = some (.slice (some ⟨DP, 0, none⟩) s s) := f1
  have d1 := t.dep.cell hun
  have d2 := t.dep.cell hvn
  have HT := Lib.hid t
  obtain ⟨du, hdu⟩ : ∃ du, dep par s u = du := ⟨_, rfl⟩
  obtain ⟨dv, hdv⟩ : ∃ dv, dep par s v = dv := ⟨_, rfl⟩
  have hdus : du < s := by have := dep_lt hu (s - u) u hun (Nat.le_refl _); omega
  have hdvs : dv < s := by have := dep_lt hu (s - v) v hvn (Nat.le_refl _); omega
  rw [hdu] at d1 CUu hlv HS
  rw [hdv] at d2 CUv hlv HS
  have hl1 : (du : Int) - (lv : Int) = ((du - lv : Nat) : Int) := by omega
  have hl2 : (dv : Int) - (lv : Int) = ((dv - lv : Nat) : Int) := by omega
  have hl3 : min (du : Int) (dv : Int) = (lv : Int) := by omega
  clear t hT h1 h2 hdu hdv hlv
  go_enter Tryd.func35, Tryd.ntmps35
  go_wp2_with fail
  refine (CHu.out _ (Only.refl _ _)).mono ?_
  rintro e w' ⟨rfl, rfl⟩
  go_wp2_with fail
  refine (CHv.out _ (Only.refl _ _)).mono ?_
  rintro e w' ⟨rfl, rfl⟩
  go_wp2_with fail
  go_quiet (fail)
  go_wp2_with fail
  refine (CUu.out _ ((Only.refl _ _).drewN _)).mono ?_
  rintro e w2 ⟨a, rfl, ea, ha, hO⟩
  have hO2 := ((Only.refl [] w').drewN nq).trans hO
  have HO2 := Lib.hid hO2
  replace f1 := cells_keep hO2 f1 (by simp)
  replace d2 := cells_keep hO2 d2 (by simp)
  clear hO hO2 d1 CHu CHv CUu
  go_wp2_with fail
  refine (CUv.out _ HO2.out).mono ?_
  rintro e w3 ⟨b, rfl, eb, hb, hO⟩
  have HO3 := Lib.hid (HO2.out.trans hO)
  have HN := Lib.hid (HS.out a b ea ha eb hb)
  have q1 : ((a : Int) == (b : Int)) = false := by
    have := HN.out.ne
    simp; omega
  have q2 : ¬ (a : Int) = (b : Int) := by simpa using q1
  clear hO CUv f1 d2 ea eb hl1 hl2 hl3 HS HO2
  go_wp2_with fail
  go_loopw [1, 2, 9] (fun va vb y wr => ∃ a b j : Nat, j ≤ 13 ∧ va = .int .i64 a ∧ vb = .int .i64 b ∧ y = .int .i64 ((j : Int) - 1) ∧ Hid (Near par s u v j a b) ∧ Hid (Only [] w' wr)) (fun _ _ y _ => (intOf y + 1).toNat)
  case atStart => exact ⟨a, b, 13, by omega, rfl, rfl, rfl, HN, HO3⟩
  case round =>
    clear HN HO3 q1 q2 ha hb
    obtain ⟨a, b, j, hj, rfl, rfl, rfl, HN, HO⟩ := hrel
    have ht := HT.out.only HO.out (by simp) (by simp) (fun _ _ => by simp)
    have ha := HN.out.ha
    have hb := HN.out.hb
    cases j with
    | zero =>
      rw [show ((0 : Nat) : Int) - 1 = -1 by omega]
      have c2 := ht.head.cellv (i := 2) (by omega)
      rw [show (2 : Nat) = 2 + 0 from rfl, tv_at (by omega)] at c2
      replace c2 : wr.cell? ⟨TB, 2, none⟩ = some (.slice (some ⟨J 0, 0, none⟩) s s) := c2
      have c3 := (ht.jumps 0 (by omega)).cell ha
      replace c3 : wr.cell? ⟨J 0, a, none⟩ = some (.int .i64 (par a)) := c3
      obtain ⟨pa, hpa⟩ : ∃ pa, par a = pa := ⟨_, rfl⟩
      rw [hpa] at c3
      have HP := Lib.hid hpa
      clear hpa ht
      by_cases hneg : pa < 0
      · go_wp2_with fail
        go_ret2
        first
        | exact ⟨a, b, HN.out, HO.out, by rw [HP.out, if_pos hneg, decide_eq_true hneg]; rfl⟩
        | exact ⟨a, ⟨b, HN.out⟩, HO.out, by rw [HP.out, if_pos hneg, decide_eq_true hneg]; rfl⟩
      · go_wp2_with fail
        go_ret2
        first
        | exact ⟨a, b, HN.out, HO.out, by rw [HP.out, if_neg (by omega), decide_eq_false (by omega)]; rfl⟩
        | exact ⟨a, ⟨b, HN.out⟩, HO.out, by rw [HP.out, if_neg (by omega), decide_eq_false (by omega)]; rfl⟩
    | succ j =>
      rw [show ((j + 1 : Nat) : Int) - 1 = (j : Int) by omega]
      have hj13 : j < 13 := by omega
      have c2 := ht.head.cellv (i := 2 + j) (by omega)
      rw [tv_at hj13] at c2
      have c3 := (ht.jumps j hj13).cell ha
      have c4 := (ht.jumps j hj13).cell hb
      have qj : (j : Int) < 13 := by omega
      have qj0 : (0 : Int) ≤ (j : Int) := by omega
      clear ht
      by_cases he : ljmp par j a = ljmp par j b
      · obtain ⟨z, hz⟩ : ∃ z, ljmp par j b = z := ⟨_, rfl⟩
        have HN2 := Lib.hid (HN.out.stay hu he)
        rw [hz] at c4
        rw [he, hz] at c3
        clear he hz
        go_wp2_with fail
        go_quiet (fail)
        go_wp2_with fail
        exact ⟨⟨a, b, j, by omega, rfl, rfl, by go_num, HN2, Lib.hid (HO.out.drewN _)⟩, by simp [intOf] <;> omega⟩
      · obtain ⟨x, y, ex, ey, hN2⟩ := HN.out.go hu hun hvn he
        have HN2 := Lib.hid hN2
        have q5 : ((x : Int) != (y : Int)) = true := by
          have := hN2.ne
          simp; omega
        rw [ex] at c3
        rw [ey] at c4
        clear he ex ey hN2
        go_wp2_with fail
        go_quiet (fail)
        go_wp2_with fail
        exact ⟨⟨x, y, j, by omega, rfl, rfl, by go_num, HN2, Lib.hid (HO.out.drewN _)⟩, by simp [intOf] <;> omega⟩

end Go.Proofs.YtipgbbhgmoehfaaDoor
