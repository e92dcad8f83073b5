/-
  The curves: program and reference.
-/
import Derived.Test.YtcgoicijbmhmpaaW9
namespace Go.Proofs.Ytcgoicijbmhmpaa
open Go.RowKit Go.Fl Go.Deep

theorem own_below {base : Nat} {wr w1 : World} {e : TypeId} {size n : Nat} {v : Value} {xs : List Value} (h : wr.ownsRow base e size v n xs) (hb : Below wr.heap.size wr w1) : w1.ownsRow base e size v n xs := by
  obtain ⟨h1, h2⟩ := h
  refine ⟨h1, ?_⟩
  rcases h2 with h2 | ⟨g, cap, cur, hv, hg, hh, r⟩
  · exact .inl h2
  · exact .inr ⟨g, cap, cur, hv, hg, by rw [hb.block g (Array.getElem?_eq_some_iff.1 hh).1]; exact hh, r⟩

def probsB (k : Nat) (g : Nat → Nat) : Bool := (List.range k).all (fun j => prob (g j))
theorem probsB_iff {k : Nat} {g : Nat → Nat} : probsB k g = true ↔ ∀ j, j < k → prob (g j) = true := by
  unfold probsB; rw [List.all_eq_true]; constructor
  · intro h j hj; exact h j (List.mem_range.2 hj)
  · intro h j hj; exact h j (List.mem_range.1 hj)
theorem probsB_bad {k : Nat} {g : Nat → Nat} (h : probsB k g = false) : ∃ j, j < k ∧ prob (g j) = false ∧ ∀ i, i < j → prob (g i) = true := by
  induction k with
  | zero => unfold probsB at h; simp at h
  | succ k ih =>
    by_cases hk : probsB k g = true
    · refine ⟨k, by omega, ?_, fun i hi => probsB_iff.1 hk i hi⟩
      rw [Bool.eq_false_iff]; intro hp
      have : probsB (k + 1) g = true := probsB_iff.2 (fun j hj => by
        by_cases hj2 : j = k
        · rw [hj2]; exact hp
        · exact probsB_iff.1 hk j (by omega))
      rw [this] at h; cases h
    · obtain ⟨j, a, b, c⟩ := ih (by simpa using hk)
      exact ⟨j, by omega, b, c⟩

/-- Nothing but draws and new blocks: a list that came in is still one. -/
theorem ListIn.below {w wr : World} {A : Option Addr} {n : Nat} {f : Nat → Nat} (h : ListIn w A n f) (hb : Below w.heap.size w wr) : ListIn wr A n f :=
  ⟨fun h0 => by
    obtain ⟨b, off, hA, hlt, hc⟩ := h.row h0
    exact ⟨b, off, hA, by have := hb.size; omega, fun j hj => (hb.cell (p := ⟨b, off + j, none⟩) hlt).trans (hc j hj)⟩, h.wf, h.len⟩

def Gives (w : World) (k : Nat) (g : Nat → Nat) (e : Ending) (w' : World) : Prop :=
  (∃ G c, e = .returned (.tuple #[.slice G k c, .int .i64 0]) ∧ RowF w' G k g) ∧ Below w.heap.size w w'

set_option maxRecDepth 100000 in
set_option maxHeartbeats 2000000 in
/-- canon.Curve, where it gives a curve. -/
theorem Curve_ok (A B : Option Addr) (n c k d : Nat) (f g : Nat → Nat) (w : World) (h : ListIn w A n f) (hg : ListIn w B k g) (hk : k ≤ 1024) (hl : listB n f = true) (hp : ∀ j, j < k → prob (g j) = true) :
    Calls Try.prog 36 #[.slice A n c, .slice B k d] w (Gives w k (fun i => avg f (n - 1) (absb (g i)))) := by
  obtain ⟨h1, h2, _⟩ := listB_parts hl
  obtain ⟨m, rfl⟩ : ∃ m, n = m + 1 := ⟨n - 1, by omega⟩
  obtain ⟨b, off, rfl, hb, hc⟩ := h.row (by omega)
  have CL := Lib.hid (isList_any (some ⟨b, off, none⟩) (m + 1) c f w h.row h.wf h.len)
  rw [hl] at CL
  have CP := Lib.hid (fun q W => isProb_any q W)
  have CA := Lib.hid (fun (W : World) q hbw hcw hq hpq => average_any b off m c q f W hbw hcw (by omega) hq hpq (fun k hk => vals_fin h.wf hl k (by omega)))
  have HC := Lib.hid hc
  have HG := Lib.hid hg
  have HP := Lib.hid hp
  obtain ⟨i0, hi, hz0, hz1, hz2⟩ := info_parts Try.info22
  have l0 : ¬ (1024 : Int) < (k : Int) := by omega
  rw [Nat.add_sub_cancel]
  clear hc h hl hg hp
  go_enter Try.func36, Try.ntmps36
  go_wp2_with (go_at_call 64; refine CL.out.mono ?_; rintro e w' ⟨rfl, rfl⟩)
  go_loop [19] (fun i => ∃ j : Nat, j ≤ k ∧ i = .int .i64 j) (fun i => k - (intOf i).toNat)
  case atStart => exact ⟨0, Nat.zero_le _, rfl⟩
  case round =>
    obtain ⟨j, hj, rfl⟩ := hrel
    by_cases hjk : j < k
    · obtain ⟨b2, off2, hB, hb2, hc2⟩ := HG.out.row (by omega)
      subst hB
      have c2 := hc2 j hjk
      have hpj := HP.out j hjk
      have CPj := Lib.hid (CP.out (g j) w)
      rw [hpj] at CPj
      have l3 : (j : Int) < k := by omega
      clear hc2 hpj
      go_wp2_with (go_at_call 60; refine CPj.out.mono ?_; rintro e w' ⟨rfl, rfl⟩)
      go_round
      case rel => exact ⟨j + 1, by omega, by go_num⟩
      case measure => simp [intOf]; omega
    · have l3 : ¬ (j : Int) < k := by omega
      go_wp2_with (refine wpList_make_own _ rfl _ _ 24 rfl w.heap.size 22 i0 (.float .f64 0) 1 Try.underlying24 hi hz0 hz1 .i64 .i64 _ k rfl rfl rfl (by rw [hz2]; omega) (by unfold maxLen; omega) (Nat.le_refl _) ?_; intro w1 hown1 hgrow1)
      have hb1 : Below w.heap.size w w1 := (Below.refl _ w).grown hgrow1 (Nat.le_refl _) (fun _ e => by cases e)
      have HO := Lib.hid hown1
      clear hown1 hgrow1
      go_loopw [8, 32] (fun v i wr => ∃ j : Nat, j ≤ k ∧ i = .int .i64 j ∧ Hid (wr.ownsRow w.heap.size 22 1 v j (cellsOf (fun i => avg f m (absb (g i))) j)) ∧ Below w.heap.size w wr) (fun _ i _ => k - (intOf i).toNat)
      case atStart => exact ⟨0, Nat.zero_le _, rfl, HO, hb1⟩
      case round =>
        clear hb1 HO hjk l3 hj
        clear w1
        obtain ⟨j, hj, rfl, hown, hbel⟩ := hrel
        by_cases hjk : j < k
        · obtain ⟨b2, off2, hB, hb2, hc2⟩ := HG.out.row (by omega)
          subst hB
          have c2 := (hbel.cell (p := ⟨b2, off2 + j, none⟩) hb2).trans (hc2 j hjk)
          have CAj := Lib.hid (CA.out wr (g j) (by have := hbel.size; omega) (fun i hi => (hbel.cell (p := ⟨b, off + i, none⟩) hb).trans (HC.out i hi)) (HG.out.wf j hjk) (HP.out j hjk))
          have l3 : (j : Int) < k := by omega
          clear hc2
          go_wp2_with fail
          refine CAj.out.mono ?_
          rintro e w1 ⟨rfl, hb1⟩
          have hown1 := Lib.hid (own_below hown.out hb1)
          have hbw : Below w.heap.size w w1 := hbel.trans (hb1.mono hbel.size)
          go_wp2_with (at_builtin; refine wpList_append_own _ rfl _ _ 24 rfl w.heap.size 22 i0 (.float .f64 0) 1 8 Try.underlying24 hi hz0 hz1 hz2 rfl (by decide) _ _ _ rfl (hown1.out.alloc _) ⟨w1.heap.size, 0, none⟩ 1 1 [.float .f64 (avg f m (absb (g j)))] rfl rfl (cell_one_new _ _ _) (by simp [Value.oneCell']) (by unfold maxLen; omega) (by omega) (by have := hbw.size; simp; omega) ?_; intro v' w2 hown' hgrow _)
          have R := own_step (g := fun i => avg f m (absb (g i))) hown1.out (hbw.alloc hbw.size _) hgrow hown'
          clear hown' hgrow hown hown1
          go_wp2
          go_roundw
          case rel => exact ⟨j + 1, by omega, by go_num, R.1, R.2⟩
          case measure => simp [intOf]; omega
        · have l3 : ¬ (j : Int) < k := by omega
          have hkk : j = k := by omega
          subst hkk
          obtain ⟨C, cc, rfl, hR⟩ := own_rowF hown.out
          have HR := Lib.hid hR
          clear hR hown
          go_wp2
          go_ret2
          exact ⟨⟨C, cc, rfl, HR⟩, hbel⟩

def Fails (w : World) (code : Int) (e : Ending) (w' : World) : Prop := e = .returned (.tuple #[.slice none 0 0, .int .i64 code]) ∧ Below w.heap.size w w'

set_option maxHeartbeats 1000000 in
theorem Curve_long (A B : Option Addr) (n c k d : Nat) (w : World) (hk : 1024 < k) : Calls Try.prog 36 #[.slice A n c, .slice B k d] w (Fails w 16) := by
  have l0 : (1024 : Int) < (k : Int) := by omega
  go_enter Try.func36, Try.ntmps36
  go_wp2
  go_ret2
  exact ⟨rfl, Below.refl _ _⟩
set_option maxHeartbeats 1000000 in
theorem refCurve_long (A B : Option Addr) (n c k d : Nat) (w : World) (hk : 1024 < k) : Calls Try.prog 37 #[.slice A n c, .slice B k d] w (Fails w 16) := by
  have l0 : (1024 : Int) < (k : Int) := by omega
  go_enter Try.func37, Try.ntmps37
  go_wp2
  go_ret2
  exact ⟨rfl, Below.refl _ _⟩
set_option maxHeartbeats 1000000 in
theorem Curve_list (A B : Option Addr) (n c k d : Nat) (f : Nat → Nat) (w : World) (h : ListIn w A n f) (hk : k ≤ 1024) (hl : listB n f = false) : Calls Try.prog 36 #[.slice A n c, .slice B k d] w (Fails w 2) := by
  have l0 : ¬ (1024 : Int) < (k : Int) := by omega
  have CL := Lib.hid (isList_any A n c f w h.row h.wf h.len)
  rw [hl] at CL
  clear h hl
  go_enter Try.func36, Try.ntmps36
  go_wp2_with (go_at_call 64; refine CL.out.mono ?_; rintro e w' ⟨rfl, rfl⟩)
  go_ret2
  exact ⟨rfl, Below.refl _ _⟩
set_option maxHeartbeats 1000000 in
theorem refCurve_list (A B : Option Addr) (n c k d : Nat) (f : Nat → Nat) (w : World) (h : ListIn w A n f) (hk : k ≤ 1024) (hl : listB n f = false) : Calls Try.prog 37 #[.slice A n c, .slice B k d] w (Fails w 2) := by
  have l0 : ¬ (1024 : Int) < (k : Int) := by omega
  have CL := Lib.hid (list_any A n c f w h.row h.wf h.len)
  rw [hl] at CL
  clear h hl
  go_enter Try.func37, Try.ntmps37
  go_wp2_with (go_at_call 66; refine CL.out.mono ?_; rintro e w' ⟨rfl, rfl⟩)
  go_ret2
  exact ⟨rfl, Below.refl _ _⟩
set_option maxRecDepth 100000 in
set_option maxHeartbeats 1000000 in
theorem Curve_bad (A B : Option Addr) (n c k d j0 : Nat) (f g : Nat → Nat) (w : World) (h : ListIn w A n f) (hg : ListIn w B k g) (hk : k ≤ 1024) (hl : listB n f = true) (hj0 : j0 < k) (hbad : prob (g j0) = false) (hp : ∀ j, j < j0 → prob (g j) = true) :
    Calls Try.prog 36 #[.slice A n c, .slice B k d] w (Fails w 2) := by
  have CL := Lib.hid (isList_any A n c f w h.row h.wf h.len)
  rw [hl] at CL
  have CP := Lib.hid (fun q W => isProb_any q W)
  have HG := Lib.hid hg
  have HP := Lib.hid hp
  have HB := Lib.hid hbad
  have l0 : ¬ (1024 : Int) < (k : Int) := by omega
  clear h hl hg hp hbad
  go_enter Try.func36, Try.ntmps36
  go_wp2_with (go_at_call 64; refine CL.out.mono ?_; rintro e w' ⟨rfl, rfl⟩)
  go_loop [19] (fun i => ∃ j : Nat, j ≤ j0 ∧ i = .int .i64 j) (fun i => k - (intOf i).toNat)
  case atStart => exact ⟨0, Nat.zero_le _, rfl⟩
  case round =>
    obtain ⟨j, hj, rfl⟩ := hrel
    obtain ⟨b2, off2, hB, hb2, hc2⟩ := HG.out.row (by omega)
    subst hB
    have c2 := hc2 j (by omega)
    have CPj := Lib.hid (CP.out (g j) w)
    have l3 : (j : Int) < k := by omega
    clear hc2
    by_cases hjk : j < j0
    · rw [HP.out j hjk] at CPj
      go_wp2_with (go_at_call 60; refine CPj.out.mono ?_; rintro e w' ⟨rfl, rfl⟩)
      go_round
      case rel => exact ⟨j + 1, by omega, by go_num⟩
      case measure => simp [intOf]; omega
    · have hjj : j = j0 := by omega
      subst hjj
      rw [HB.out] at CPj
      go_wp2_with (go_at_call 60; refine CPj.out.mono ?_; rintro e w' ⟨rfl, rfl⟩)
      go_ret2
      exact ⟨rfl, Below.refl _ _⟩
set_option maxRecDepth 100000 in
set_option maxHeartbeats 2000000 in
/-- seepageref31.Curve, up to the number j0 of probabilities that are none before. -/
theorem refCurve_any (A B : Option Addr) (n c k d j0 : Nat) (f g : Nat → Nat) (w : World) (h : ListIn w A n f) (hg : ListIn w B k g) (hk : k ≤ 1024) (hl : listB n f = true) (hj0 : j0 ≤ k) (hp : ∀ j, j < j0 → prob (g j) = true) (hbad : j0 < k → prob (g j0) = false)
    (R : Ending → World → Prop) (hR1 : j0 = k → ∀ e w', Gives w k (fun i => avg f (n - 1) (absb (g i))) e w' → R e w') (hR2 : j0 < k → ∀ e w', Fails w 2 e w' → R e w') :
    Calls Try.prog 37 #[.slice A n c, .slice B k d] w R := by
  have CL := Lib.hid (list_any A n c f w h.row h.wf h.len)
  rw [hl] at CL
  have CA := Lib.hid (fun (W : World) q (hW : ListIn W A n f) hq hpq => refAverage_ok A n c q f W hW hq hl hpq)
  have CB := Lib.hid (fun (W : World) q (hW : ListIn W A n f) hq => refAverage_bad A n c q f W hW hq)
  have HA := Lib.hid h
  have HG := Lib.hid hg
  have HP := Lib.hid hp
  have HB := Lib.hid hbad
  have HR1 := Lib.hid hR1
  have HR2 := Lib.hid hR2
  have HL := Lib.hid hl
  obtain ⟨i0, hi, hz0, hz1, hz2⟩ := info_parts Try.info22
  have l0 : ¬ (1024 : Int) < (k : Int) := by omega
  clear h hl hg hp hbad hR1 hR2
  go_enter Try.func37, Try.ntmps37
  go_wp2_with (go_at_call 66; refine CL.out.mono ?_; rintro e w' ⟨rfl, rfl⟩)
  go_loopw [6, 7] (fun v i wr => ∃ j : Nat, j ≤ j0 ∧ i = .int .i64 j ∧ Hid (wr.ownsRow w.heap.size 22 1 v j (cellsOf (fun i => avg f (n - 1) (absb (g i))) j)) ∧ Below w.heap.size w wr) (fun _ i _ => k - (intOf i).toNat)
  case atStart => exact ⟨0, Nat.zero_le _, rfl, World.ownsRow_nil _ _ _ _, Below.refl _ _⟩
  case round =>
    obtain ⟨j, hj, rfl, hown, hbel⟩ := hrel
    by_cases hjk : j < k
    · obtain ⟨b2, off2, hB, hb2, hc2⟩ := HG.out.row (by omega)
      subst hB
      have c2 := (hbel.cell (p := ⟨b2, off2 + j, none⟩) hb2).trans (hc2 j hjk)
      have l3 : (j : Int) < k := by omega
      clear hc2
      by_cases hj0k : j < j0
      · have CAj := Lib.hid (CA.out wr (g j) (HA.out.below hbel) (HG.out.wf j hjk) (HP.out j hj0k))
        go_wp2_with fail
        refine CAj.out.mono ?_
        rintro e w1 ⟨rfl, hb1⟩
        have hown1 := Lib.hid (own_below hown.out hb1)
        have hbw : Below w.heap.size w w1 := hbel.trans (hb1.mono hbel.size)
        go_wp2_with (at_builtin; refine wpList_append_own _ rfl _ _ 24 rfl w.heap.size 22 i0 (.float .f64 0) 1 8 Try.underlying24 hi hz0 hz1 hz2 rfl (by decide) _ _ _ rfl (hown1.out.alloc _) ⟨w1.heap.size, 0, none⟩ 1 1 [.float .f64 (avg f (n - 1) (absb (g j)))] rfl rfl (cell_one_new _ _ _) (by simp [Value.oneCell']) (by unfold maxLen; omega) (by omega) (by have := hbw.size; simp; omega) ?_; intro v' w2 hown' hgrow _)
        have R := own_step (g := fun i => avg f (n - 1) (absb (g i))) hown1.out (hbw.alloc hbw.size _) hgrow hown'
        clear hown' hgrow hown hown1
        go_wp2
        go_roundw
        case rel => exact ⟨j + 1, by omega, by go_num, R.1, R.2⟩
        case measure => simp [intOf]; omega
      · have hjj : j = j0 := by omega
        subst hjj
        have CBj := Lib.hid (CB.out wr (g j) (HA.out.below hbel) (by rw [HL.out, HB.out hjk]; rfl))
        go_wp2_with fail
        refine CBj.out.mono ?_
        rintro e w1 ⟨rfl, rfl⟩
        go_wp2
        exact HR2.out hjk _ _ ⟨rfl, hbel⟩
    · have l3 : ¬ (j : Int) < k := by omega
      have hkk : j = k := by omega
      subst hkk
      have hj00 : j0 = j := by omega
      obtain ⟨C, cc, rfl, hR⟩ := own_rowF hown.out
      have HR := Lib.hid hR
      have HJ := Lib.hid hj00
      clear hR hown hj00
      go_wp2
      exact HR1.out HJ.out _ _ ⟨⟨C, cc, rfl, HR⟩, hbel⟩
end Go.Proofs.Ytcgoicijbmhmpaa
