import Derived.Test.YtbafacdknaopjaaYX4
import Derived.Test.YtbafacdknaopjaaYX2
/-
  The curves: program and reference.
-/
namespace Go.Proofs.Ytbafacdknaopjaa.X
open Go.RowKit Go.Fl Go.Deep

theorem own_below {base : Nat} {wr w1 : World} {e : TypeId} {size n : Nat} {v : Value} {xs : List Value} (h : wr.ownsRow base e size v n xs) (hb : Below wr.heap.size wr w1) : w1.ownsRow base e size v n xs := by
  obtain ⟨h1, h2⟩ := h
  refine ⟨h1, ?_⟩
  rcases h2 with h2 | ⟨g, cap, cur, hv, hg, hh, r⟩
  · exact .inl h2
  · exact .inr ⟨g, cap, cur, hv, hg, by rw [hb.block g (Array.getElem?_eq_some_iff.1 hh).1]; exact hh, r⟩

def probsB (k : Nat) (g : Nat → Nat) : Bool := (List.range k).all (fun j => prob (g j))

theorem probsB_iff {k : Nat} {g : Nat → Nat} : probsB k g = true ↔ ∀ j, j < k → prob (g j) = true := by
  unfold probsB; rw [List.all_eq_true]; constructor
  · intro h j hj; exact h j (List.mem_range.2 hj)
  · intro h j hj; exact h j (List.mem_range.1 hj)

theorem probsB_bad {k : Nat} {g : Nat → Nat} (h : probsB k g = false) : ∃ j, j < k ∧ prob (g j) = false ∧ ∀ i, i < j → prob (g i) = true := by
  induction k with
  | zero => unfold probsB at h; simp at h
  | succ k ih =>
    by_cases hk : probsB k g = true
    · refine ⟨k, by omega, ?_, fun i hi => probsB_iff.1 hk i hi⟩
      rw [Bool.eq_false_iff]; intro hp
      have : probsB (k + 1) g = true := probsB_iff.2 (fun j hj => by
        by_cases hj2 : j = k
        · rw [hj2]; exact hp
        · exact probsB_iff.1 hk j (by omega))
      rw [this] at h; cases h
    · obtain ⟨j, a, b, c⟩ := ih (by simpa using hk)
      exact ⟨j, by omega, b, c⟩

/-- Nothing but draws and new blocks: a list that came in is still one. -/
theorem ListIn.below {w wr : World} {A : Option Addr} {n : Nat} {f : Nat → Nat} (h : ListIn w A n f) (hb : Below w.heap.size w wr) : ListIn wr A n f :=
  ⟨fun h0 => by
    obtain ⟨b, off, hA, hlt, hc⟩ := h.row h0
    exact ⟨b, off, hA, by have := hb.size; omega, fun j hj => (hb.cell (p := ⟨b, off + j, none⟩) hlt).trans (hc j hj)⟩, h.wf, h.len⟩

def Gives (w : World) (k : Nat) (g : Nat → Nat) (e : Ending) (w' : World) : Prop :=
  (∃ G c, e = .returned (.tuple #[.slice G k c, .int .i64 0]) ∧ RowF w' G k g) ∧ Below w.heap.size w w'

set_option maxRecDepth 100000 in
set_option maxHeartbeats 2000000 in
/-- canon.Curve, where it gives a curve. -/
theorem Curve_ok (A B : Option Addr) (n c k d : Nat) (f g : Nat → Nat) (w : World) (h : ListIn w A n f) (hg : ListIn w B k g) (hk : k ≤ 1024) (hl : listB n f = true) (hp : ∀ j, j < k → prob (g j) = true) :
    Calls Try.prog 102 #[.slice A n c, .slice B k d] w (Gives w k (fun i => avg f (n - 1) (absb (g i)))) := by
  obtain ⟨h1, h2, _⟩ := listB_parts hl
  obtain ⟨m, rfl⟩ : ∃ m, n = m + 1 := ⟨n - 1, by omega⟩
  obtain ⟨b, off, rfl, hb, hc⟩ := h.row (by omega)
  have CL := Lib.hid (isList_any (some ⟨b, off, none⟩) (m + 1) c f w h.row h.wf h.len)
  rw [hl] at CL
  have CP := Lib.hid (fun q W => isProb_any q W)
  have CA := Lib.hid (fun (W : World) q hbw hcw hq hpq => average_any b off m c q f W hbw hcw (by omega) hq hpq (fun k hk => vals_fin h.wf hl k (by omega)))
  have HC := Lib.hid hc
  have HG := Lib.hid hg
  have HP := Lib.hid hp
  obtain ⟨i0, hi, hz0, hz1, hz2⟩ := info_parts Try.info22
  have l0 : ¬ (1024 : Int) < (k : Int) := by omega
  rw [Nat.add_sub_cancel]
  clear hc h hl hg hp
  go_enter Try.func102, Try.ntmps102
  go_wp2_with (go_at_call 97; refine CL.out.mono ?_; rintro e w' ⟨rfl, rfl⟩)
  go_loop [19] (fun i => ∃ j : Nat, j ≤ k ∧ i = .int .i64 j) (fun i => k - (intOf i).toNat)
  case atStart => exact ⟨0, Nat.zero_le _, rfl⟩
  case round =>
    obtain ⟨j, hj, rfl⟩ := hrel
    by_cases hjk : j < k
    · obtain ⟨b2, off2, hB, hb2, hc2⟩ := HG.out.row (by omega)
      subst hB
      have c2 := hc2 j hjk
      have hpj := HP.out j hjk
      have CPj := Lib.hid (CP.out (g j) w)
      rw [hpj] at CPj
      have l3 : (j : Int) < k := by omega
      clear hc2 hpj
      go_wp2_with (go_at_call 98; refine CPj.out.mono ?_; rintro e w' ⟨rfl, rfl⟩)
      go_round
      case rel => exact ⟨j + 1, by omega, by go_num⟩
      case measure => simp [intOf]; omega
    · have l3 : ¬ (j : Int) < k := by omega
      go_wp2_with (refine wpList_make_own _ rfl _ _ 74 rfl w.heap.size 77 i0 (.float .f64 0) 1 Try.underlying74 hi hz0 hz1 .i64 .i64 _ k rfl rfl rfl (by rw [hz2]; omega) (by unfold maxLen; omega) (Nat.le_refl _) ?_; intro w1 hown1 hgrow1)
      have hb1 : Below w.heap.size w w1 := (Below.refl _ w).grown hgrow1 (Nat.le_refl _) (fun _ e => by cases e)
      have HO := Lib.hid hown1
      clear hown1 hgrow1
      go_loopw [8, 32] (fun v i wr => ∃ j : Nat, j ≤ k ∧ i = .int .i64 j ∧ Hid (wr.ownsRow w.heap.size 77 1 v j (cellsOf (fun i => avg f m (absb (g i))) j)) ∧ Below w.heap.size w wr) (fun _ i _ => k - (intOf i).toNat)
      case atStart => exact ⟨0, Nat.zero_le _, rfl, HO, hb1⟩
      case round =>
        clear hb1 HO hjk l3 hj
        clear w1
        obtain ⟨j, hj, rfl, hown, hbel⟩ := hrel
        by_cases hjk : j < k
        · obtain ⟨b2, off2, hB, hb2, hc2⟩ := HG.out.row (by omega)
          subst hB
          have c2 := (hbel.cell (p := ⟨b2, off2 + j, none⟩) hb2).trans (hc2 j hjk)
          have CAj := Lib.hid (CA.out wr (g j) (by have := hbel.size; omega) (fun i hi => (hbel.cell (p := ⟨b, off + i, none⟩) hb).trans (HC.out i hi)) (HG.out.wf j hjk) (HP.out j hjk))
          have l3 : (j : Int) < k := by omega
          clear hc2
          go_wp2_with fail
          refine CAj.out.mono ?_
          rintro e w1 ⟨rfl, hb1⟩
          have hown1 := Lib.hid (own_below hown.out hb1)
          have hbw : Below w.heap.size w w1 := hbel.trans (hb1.mono hbel.size)
          go_wp2_with (at_builtin; refine wpList_append_own _ rfl _ _ 74 rfl w.heap.size 77 i0 (.float .f64 0) 1 8 Try.underlying74 hi hz0 hz1 hz2 rfl (by decide) _ _ _ rfl (hown1.out.alloc _) ⟨w1.heap.size, 0, none⟩ 1 1 [.float .f64 (avg f m (absb (g j)))] rfl rfl (cell_one_new _ _ _) (by simp [Value.oneCell']) (by unfold maxLen; omega) (by omega) (by have := hbw.size; simp; omega) ?_; intro v' w2 hown' hgrow _)
          have R := own_step (g := fun i => avg f m (absb (g i))) hown1.out (hbw.alloc hbw.size _) hgrow hown'
          clear hown' hgrow hown hown1
          go_wp2
          go_roundw
          case rel => exact ⟨j + 1, by omega, by go_num, R.1, R.2⟩
          case measure => simp [intOf]; omega
        · have l3 : ¬ (j : Int) < k := by omega
          have hkk : j = k := by omega
          subst hkk
          obtain ⟨C, cc, rfl, hR⟩ := own_rowF hown.out
          have HR := Lib.hid hR
          clear hR hown
          go_wp2
          go_ret2
          exact ⟨⟨C, cc, rfl, HR⟩, hbel⟩

def Fails (w : World) (code : Int) (e : Ending) (w' : World) : Prop := e = .returned (.tuple #[.slice none 0 0, .int .i64 code]) ∧ Below w.heap.size w w'

set_option maxHeartbeats 1000000 in
theorem Curve_long (A B : Option Addr) (n c k d : Nat) (w : World) (hk : 1024 < k) : Calls Try.prog 102 #[.slice A n c, .slice B k d] w (Fails w 16) := by
  have l0 : (1024 : Int) < (k : Int) := by omega
  go_enter Try.func102, Try.ntmps102
  go_wp2
  go_ret2
  exact ⟨rfl, Below.refl _ _⟩

set_option maxHeartbeats 1000000 in
theorem Curve_list (A B : Option Addr) (n c k d : Nat) (f : Nat → Nat) (w : World) (h : ListIn w A n f) (hk : k ≤ 1024) (hl : listB n f = false) : Calls Try.prog 102 #[.slice A n c, .slice B k d] w (Fails w 2) := by
  have l0 : ¬ (1024 : Int) < (k : Int) := by omega
  have CL := Lib.hid (isList_any A n c f w h.row h.wf h.len)
  rw [hl] at CL
  clear h hl
  go_enter Try.func102, Try.ntmps102
  go_wp2_with (go_at_call 97; refine CL.out.mono ?_; rintro e w' ⟨rfl, rfl⟩)
  go_ret2
  exact ⟨rfl, Below.refl _ _⟩

set_option maxRecDepth 100000 in
set_option maxHeartbeats 1000000 in
theorem Curve_bad (A B : Option Addr) (n c k d j0 : Nat) (f g : Nat → Nat) (w : World) (h : ListIn w A n f) (hg : ListIn w B k g) (hk : k ≤ 1024) (hl : listB n f = true) (hj0 : j0 < k) (hbad : prob (g j0) = false) (hp : ∀ j, j < j0 → prob (g j) = true) :
    Calls Try.prog 102 #[.slice A n c, .slice B k d] w (Fails w 2) := by
  have CL := Lib.hid (isList_any A n c f w h.row h.wf h.len)
  rw [hl] at CL
  have CP := Lib.hid (fun q W => isProb_any q W)
  have HG := Lib.hid hg
  have HP := Lib.hid hp
  have HB := Lib.hid hbad
  have l0 : ¬ (1024 : Int) < (k : Int) := by omega
  clear h hl hg hp hbad
  go_enter Try.func102, Try.ntmps102
  go_wp2_with (go_at_call 97; refine CL.out.mono ?_; rintro e w' ⟨rfl, rfl⟩)
  go_loop [19] (fun i => ∃ j : Nat, j ≤ j0 ∧ i = .int .i64 j) (fun i => k - (intOf i).toNat)
  case atStart => exact ⟨0, Nat.zero_le _, rfl⟩
  case round =>
    obtain ⟨j, hj, rfl⟩ := hrel
    obtain ⟨b2, off2, hB, hb2, hc2⟩ := HG.out.row (by omega)
    subst hB
    have c2 := hc2 j (by omega)
    have CPj := Lib.hid (CP.out (g j) w)
    have l3 : (j : Int) < k := by omega
    clear hc2
    by_cases hjk : j < j0
    · rw [HP.out j hjk] at CPj
      go_wp2_with (go_at_call 98; refine CPj.out.mono ?_; rintro e w' ⟨rfl, rfl⟩)
      go_round
      case rel => exact ⟨j + 1, by omega, by go_num⟩
      case measure => simp [intOf]; omega
    · have hjj : j = j0 := by omega
      subst hjj
      rw [HB.out] at CPj
      go_wp2_with (go_at_call 98; refine CPj.out.mono ?_; rintro e w' ⟨rfl, rfl⟩)
      go_ret2
      exact ⟨rfl, Below.refl _ _⟩

end Go.Proofs.Ytbafacdknaopjaa.X

/-
  The first chapter's own self-test answers true.
-/
namespace Go.Proofs.Ytbafacdknaopjaa.X
open Go.RowKit Go.Fl Go.Deep

/-! ### The chapter's example -/

def half : Nat := 4602678819172646912

def ex3 (j : Nat) : Nat := if j = 0 then 4607182418800017408 else if j = 1 then 4613937818241073152 else 4611686018427387904

def ex2 (j : Nat) : Nat := if j = 0 then 4607182418800017408 else 4613937818241073152

def exp3 (j : Nat) : Nat := if j = 0 then 0 else if j = 1 then 4598175219545276416 else 4607182418800017408

def exw (j : Nat) : Nat := if j = 0 then 4598175219545276416 else if j = 1 then 4602678819172646912 else 4598175219545276416

def exc (j : Nat) : Nat := if j = 0 then 4607182418800017408 else if j = 1 then 4609434218613702656 else 4613937818241073152

theorem prob_half : prob half = true := by decide +kernel

theorem list_ex3 : listB 3 ex3 = true := by decide +kernel

theorem list_ex2 : listB 2 ex2 = true := by decide +kernel

theorem avg_ex3 : avg ex3 2 (absb half) = 4612248968380809216 := by decide +kernel

theorem slope_ex3 : slope ex3 2 (absb half) = 4607182418800017408 := by decide +kernel

theorem lt3 {j : Nat} {p : Nat → Prop} (h : j < 3) (h0 : p 0) (h1 : p 1) (h2 : p 2) : p j := by
  match j, h with
  | 0, _ => exact h0
  | 1, _ => exact h1
  | 2, _ => exact h2

theorem wt_ex {j : Nat} (h : j < 3) : wt 2 (absb half) j = exw j := lt3 (p := fun j => wt 2 (absb half) j = exw j) h (by decide +kernel) (by decide +kernel) (by decide +kernel)

theorem prob_ex {j : Nat} (h : j < 3) : prob (exp3 j) = true := lt3 (p := fun j => prob (exp3 j) = true) h (by decide +kernel) (by decide +kernel) (by decide +kernel)

theorem curve_ex {j : Nat} (h : j < 3) : avg ex2 1 (absb (exp3 j)) = exc j := lt3 (p := fun j => avg ex2 1 (absb (exp3 j)) = exc j) h (by decide +kernel) (by decide +kernel) (by decide +kernel)

/-- A new row of three, and of two, floats reads as a list. -/
theorem new3 (W : World) (x y z : Nat) (f : Nat → Nat) (h0 : f 0 = x) (h1 : f 1 = y) (h2 : f 2 = z) : RowF (W.alloc (.cells #[.float .f64 x, .float .f64 y, .float .f64 z] 77)) (some ⟨W.heap.size, 0, none⟩) 3 f :=
  fun _ => ⟨W.heap.size, 0, rfl, by simp, fun j hj => by
    rw [Nat.zero_add, World.cell?_alloc_at _ _ _ _ rfl]
    exact lt3 (p := fun j => (#[Value.float .f64 x, .float .f64 y, .float .f64 z] : Array Value)[j]? = some (.float .f64 (f j))) hj (by rw [h0]; rfl) (by rw [h1]; rfl) (by rw [h2]; rfl)⟩

theorem new2 (W : World) (x y : Nat) (f : Nat → Nat) (h0 : f 0 = x) (h1 : f 1 = y) : RowF (W.alloc (.cells #[.float .f64 x, .float .f64 y] 77)) (some ⟨W.heap.size, 0, none⟩) 2 f :=
  fun _ => ⟨W.heap.size, 0, rfl, by simp, fun j hj => by
    rw [Nat.zero_add, World.cell?_alloc_at _ _ _ _ rfl]
    match j, hj with
    | 0, _ => rw [h0]; rfl
    | 1, _ => rw [h1]; rfl⟩

theorem RowF.below {w wr : World} {A : Option Addr} {n : Nat} {f : Nat → Nat} (h : RowF w A n f) (hb : Below w.heap.size w wr) : RowF wr A n f := fun h0 => by
  obtain ⟨b, off, hA, hlt, hc⟩ := h h0
  exact ⟨b, off, hA, by have := hb.size; omega, fun j hj => (hb.cell (p := ⟨b, off + j, none⟩) hlt).trans (hc j hj)⟩

theorem RowF.of_row {W : World} {g n : Nat} {f : Nat → Nat} (h : W.rowIs g 77 n (fl f)) : RowF W (some ⟨g, 0, none⟩) n f :=
  fun _ => ⟨g, 0, rfl, h.lt, fun j hj => by rw [Nat.zero_add]; exact h.cell hj⟩

theorem RowF.congr {w : World} {A : Option Addr} {n : Nat} {f g : Nat → Nat} (h : RowF w A n f) (hfg : ∀ j, j < n → f j = g j) : RowF w A n g := fun h0 => by
  obtain ⟨b, off, hA, hlt, hc⟩ := h h0
  exact ⟨b, off, hA, hlt, fun j hj => by rw [← hfg j hj]; exact hc j hj⟩

theorem RowF.alloc {w : World} {A : Option Addr} {n : Nat} {f : Nat → Nat} (h : RowF w A n f) (o : Obj) : RowF (w.alloc o) A n f := h.below ((Below.refl _ w).alloc (Nat.le_refl _) _)

theorem ex_avg (W : World) : Calls Try.prog 46 #[.slice (some ⟨W.heap.size, 0, none⟩) 3 3, .float .f64 4602678819172646912] (W.alloc (.cells #[.float .f64 4607182418800017408, .float .f64 4613937818241073152, .float .f64 4611686018427387904] 77))
    fun e w' => e = .returned (.tuple #[.float .f64 4612248968380809216, .int .i64 0]) ∧ Below W.heap.size W w' :=
  (Average_ok (some ⟨W.heap.size, 0, none⟩) 3 3 half ex3 _ ⟨new3 W _ _ _ ex3 rfl rfl rfl, fun j hj => lt3 (p := fun j => ex3 j < 2 ^ 64) hj (by decide) (by decide) (by decide), by unfold maxLen; omega⟩ (by unfold half; omega) list_ex3 prob_half).mono
    fun e w' ⟨h1, h2⟩ => ⟨by rw [h1, avg_ex3], ((Below.refl _ W).alloc (Nat.le_refl _) _).trans (h2.mono (by simp))⟩

theorem ex_slope (W : World) : Calls Try.prog 101 #[.slice (some ⟨W.heap.size, 0, none⟩) 3 3, .float .f64 4602678819172646912] (W.alloc (.cells #[.float .f64 4607182418800017408, .float .f64 4613937818241073152, .float .f64 4611686018427387904] 77))
    fun e w' => e = .returned (.tuple #[.float .f64 4607182418800017408, .int .i64 0]) ∧ Below W.heap.size W w' :=
  (Slope_ok (some ⟨W.heap.size, 0, none⟩) 1 3 half ex3 _ ⟨new3 W _ _ _ ex3 rfl rfl rfl, fun j hj => lt3 (p := fun j => ex3 j < 2 ^ 64) hj (by decide) (by decide) (by decide), by unfold maxLen; omega⟩ (by unfold half; omega) list_ex3 prob_half).mono
    fun e w' ⟨h1, h2⟩ => ⟨by rw [h1, slope_ex3], ((Below.refl _ W).alloc (Nat.le_refl _) _).trans (h2.mono (by simp))⟩

theorem ex_weights (W : World) : Calls Try.prog 100 #[.int .i64 2, .float .f64 4602678819172646912] W fun e w' => e = .returned (.tuple #[.slice (some ⟨W.heap.size, 0, none⟩) 3 3, .int .i64 0]) ∧ RowF w' (some ⟨W.heap.size, 0, none⟩) 3 exw ∧ Below W.heap.size W w' :=
  (Weights_ok 2 half W (by omega) (by unfold half; omega) prob_half).mono fun e w' ⟨h1, h2, h3⟩ => ⟨h1, (RowF.of_row h2).congr fun j hj => wt_ex hj, h3⟩

theorem ex_curve (W : World) : Calls Try.prog 102 #[.slice (some ⟨W.heap.size, 0, none⟩) 2 2, .slice (some ⟨W.heap.size + 1, 0, none⟩) 3 3] ((W.alloc (.cells #[.float .f64 4607182418800017408, .float .f64 4613937818241073152] 77)).alloc (.cells #[.float .f64 0, .float .f64 4598175219545276416, .float .f64 4607182418800017408] 77))
    fun e w' => (∃ G c, e = .returned (.tuple #[.slice G 3 c, .int .i64 0]) ∧ RowF w' G 3 exc) ∧ Below W.heap.size W w' :=
  (Curve_ok (some ⟨W.heap.size, 0, none⟩) (some ⟨W.heap.size + 1, 0, none⟩) 2 2 3 3 ex2 exp3 _
    ⟨(new2 W _ _ ex2 rfl rfl).alloc _, fun j hj => by match j, hj with
      | 0, _ => decide
      | 1, _ => decide, by unfold maxLen; omega⟩
    ⟨by have := new3 (W.alloc (.cells #[.float .f64 4607182418800017408, .float .f64 4613937818241073152] 77)) 0 4598175219545276416 4607182418800017408 exp3 rfl rfl rfl; rwa [World.size_alloc] at this, fun j hj => lt3 (p := fun j => exp3 j < 2 ^ 64) hj (by decide) (by decide) (by decide), by unfold maxLen; omega⟩
    (by omega) list_ex2 (fun j hj => prob_ex hj)).mono
    fun e w' ⟨⟨G, c, h1, h2⟩, h3⟩ => ⟨⟨G, c, h1, h2.congr fun j hj => curve_ex hj⟩, (((Below.refl _ W).alloc (Nat.le_refl _) _).alloc (by simp) _).trans (h3.mono (by simp; omega))⟩

theorem same_new (W : World) (A : Option Addr) (c x y z : Nat) (f : Nat → Nat) (h : RowF W A 3 f) (h0 : f 0 = x) (h1 : f 1 = y) (h2 : f 2 = z) :
    Calls Try.prog 103 #[.slice A 3 c, .slice (some ⟨W.heap.size, 0, none⟩) 3 3] (W.alloc (.cells #[.float .f64 x, .float .f64 y, .float .f64 z] 77)) fun e w' => e = .returned (.bool true) ∧ Below W.heap.size W w' :=
  (same_yes A (some ⟨W.heap.size, 0, none⟩) 3 c 3 f f _ (h.alloc _) (new3 W x y z f h0 h1 h2) (by unfold maxLen; omega) (fun _ _ => rfl)).mono
    fun e w' ⟨h1, h2⟩ => ⟨h1, ((Below.refl _ W).alloc (Nat.le_refl _) _).trans (h2.below _)⟩

set_option maxRecDepth 100000 in
set_option maxHeartbeats 2000000 in
theorem works_any (w : World) : Calls Try.prog 49 #[] w fun e w' => e = .returned (.bool true) ∧ Below w.heap.size w w' := by
  have f1 : (FloatKind.f64.format.order 4612248968380809216 4612248968380809216 == some Ordering.eq) = true := by decide +kernel
  have f2 : (FloatKind.f64.format.order 4607182418800017408 4607182418800017408 == some Ordering.eq) = true := by decide +kernel
  go_enter Try.func49, Try.ntmps49
  go_wp2_with fail
  refine (ex_weights _).mono ?_
  rintro e w1 ⟨rfl, hw1, hb1⟩
  go_wp2_with fail
  refine (ex_avg _).mono ?_
  rintro e w2 ⟨rfl, hb2⟩
  go_wp2_with fail
  refine (ex_slope _).mono ?_
  rintro e w3 ⟨rfl, hb3⟩
  go_wp2_with fail
  refine (ex_curve _).mono ?_
  rintro e w4 ⟨⟨G, c, rfl, hw4⟩, hb4⟩
  have hw2 := (hw1.below hb2).below hb3
  have H2 := Lib.hid (hw2.below hb4)
  have H4 := Lib.hid hw4
  clear hw1 hw2 hw4
  go_wp2_with fail
  refine (same_new w4 _ 3 _ _ _ exw H2.out rfl rfl rfl).mono ?_
  rintro e w5 ⟨rfl, hb5⟩
  go_wp2_with fail
  refine (same_new w5 _ c _ _ _ exc (H4.out.below hb5) rfl rfl rfl).mono ?_
  rintro e w6 ⟨rfl, hb6⟩
  go_wp2
  go_ret
  exact ⟨rfl, hb1.trans (((((hb2.trans (hb3.mono hb2.size)).trans (hb4.mono (Nat.le_trans hb2.size hb3.size))).trans (hb5.mono (Nat.le_trans (Nat.le_trans hb2.size hb3.size) hb4.size))).trans (hb6.mono (Nat.le_trans (Nat.le_trans (Nat.le_trans hb2.size hb3.size) hb4.size) hb5.size))).mono hb1.size)⟩

end Go.Proofs.Ytbafacdknaopjaa.X

/-
  The small functions of the second file of the chapter: a probability of 1024ths, and the comparison up to a small part.
-/
namespace Go.Proofs.Ytbafacdknaopjaa.X
open Go.RowKit Go.Fl Go.Deep

theorem unary_neg_float (k : FloatKind) (b : Nat) : Op.unary .neg (.float k b) = pure (.float k (Op.negFloat k b)) := rfl

attribute [local go_sem] unary_neg_float

set_option maxHeartbeats 400000 in
theorem chance_c (p : Nat) (_hp : p ≤ 65535) (w : World) :
    Calls Try.prog 47 #[.int .u16 p] w fun e w' => e = .returned (.float .f64 (ch (p % 1025))) ∧ w = w' := by
  have hq := fun ty w => run_float_arith (P := Try.prog) w .quo ty .f64 _ _ _ (ch_ok (k := p % 1025) (by omega)).1
  unfold w1024 at hq
  have e : ((p % 1025 : Nat) : Int) = (p : Int) % 1025 := by omega
  rw [e] at hq
  clear e
  go_enter Try.func47, Try.ntmps47
  go_wp2
  go_ret
  exact ⟨rfl, rfl⟩

set_option maxHeartbeats 400000 in
theorem near_c (a b am : Nat) (w : World) (h1 : floatBits .sub .f64 a b = some (fsub a b)) (h2 : floatBits .mul .f64 tinyW am = some (fmul tinyW am)) (h3 : nearB a b am = true) :
    Calls Try.prog 48 #[.float .f64 a, .float .f64 b, .float .f64 am] w fun e w' => e = .returned (.bool true) ∧ w = w' := by
  unfold nearB at h3
  rw [Bool.and_eq_true] at h3
  obtain ⟨h3, h4⟩ := h3
  have o1 := fun ty w => run_float_arith (P := Try.prog) w .sub ty .f64 _ _ _ h1
  have o2 := fun ty w => run_float_arith (P := Try.prog) w .mul ty .f64 _ _ _ h2
  have c1 : (FloatKind.f64.format.order (fsub a b) (fmul tinyW am) == some Ordering.lt || FloatKind.f64.format.order (fsub a b) (fmul tinyW am) == some Ordering.eq) = true := h3
  have c2 : (FloatKind.f64.format.order (Op.negFloat .f64 (fsub a b)) (fmul tinyW am) == some Ordering.lt || FloatKind.f64.format.order (Op.negFloat .f64 (fsub a b)) (fmul tinyW am) == some Ordering.eq) = true := h4
  clear h1 h2 h3 h4
  generalize fmul tinyW am = t at *
  unfold tinyW at o2
  go_enter Try.func48, Try.ntmps48
  go_wp2
  go_ret
  exact ⟨rfl, rfl⟩

end Go.Proofs.Ytbafacdknaopjaa.X

/-
  The quantities of the rows of a sweep: program and reference, and the walk of the law on them.
-/
namespace Go.Proofs.Ytbafacdknaopjaa.X
open Go.RowKit Go.Fl Go.Deep

/-- A list of rows of three whole numbers. -/
structure RowsIn (w : World) (A : Option Addr) (n : Nat) (f : Nat → Nat → Int) : Prop where
  row : 0 < n → ∃ b off, A = some ⟨b, off, none⟩ ∧ b < w.heap.size ∧ ∀ j i, j < n → i < 3 → w.cell? ⟨b, off + j * 3 + i, none⟩ = some (.int .i64 (f j i))
  wf : ∀ j i, j < n → i < 3 → (Lit.int .i64 (f j i)).wf = true
  len : n ≤ maxLen

def quant (f : Nat → Nat → Int) (n : Int) (i j : Nat) : Nat := fdiv (ofI (f j i)) (ofI n)

def rowsB (k : Nat) (n what : Int) : Bool := decide (1 ≤ n) && decide (1 ≤ what) && decide (what ≤ 3) && decide (1 ≤ k) && decide (k ≤ 16385)

theorem ofI_pos {n : Int} (h1 : 1 ≤ n) (h2 : n ≤ 9223372036854775807) : isFin (ofI n) ∧ 1 ≤ fv (ofI n) := by
  obtain ⟨a, b⟩ := ofInt_spec n (by omega)
  have h := b.dn 1 (srep_int 1 (by decide)) (by have : ((1 : Int) : Rat) ≤ (n : Rat) := Rat.intCast_le_intCast.2 h1; simpa using this)
  exact ⟨a, by show 1 ≤ fv (FloatKind.f64.nearest n); simpa using h⟩

theorem ofI_big {v : Int} (h1 : -9223372036854775808 ≤ v) (h2 : v ≤ 9223372036854775807) : isFin (ofI v) ∧ (fv (ofI v)).abs ≤ 36893488147419103232 := by
  obtain ⟨a, b⟩ := ofInt_spec v (by omega)
  refine ⟨a, ?_⟩
  have hv1 : (-9223372036854775808 : Rat) ≤ (v : Rat) := by have := Rat.intCast_le_intCast.2 h1; simpa using this
  have hv2 : (v : Rat) ≤ 9223372036854775807 := by have := Rat.intCast_le_intCast.2 h2; simpa using this
  have hva : (v : Rat).abs ≤ 9223372036854775808 := abs_le_of (by grind) (by grind)
  have h0 := Rat.abs_nonneg (x := (v : Rat))
  have e1 := b.er
  have e2 := b.er'
  have e3 : (v : Rat).abs * eps ≤ (v : Rat).abs := by have := eps_mul_le h0; rw [Rat.mul_comm]; exact this
  have e4 : eta ≤ 1 := by have := eta_le; have := tau_le; have := eta_pos; have := tau_pos; grind
  have e5 : fv (ofI v) ≤ 36893488147419103232 := by unfold ofI floatOfInt; grind
  have e6 : -fv (ofI v) ≤ 36893488147419103232 := by unfold ofI floatOfInt; grind
  exact abs_le_of e5 e6

theorem quant_ok {v n : Int} (h1 : 1 ≤ n) (h2 : n ≤ 9223372036854775807) (h3 : -9223372036854775808 ≤ v) (h4 : v ≤ 9223372036854775807) :
    floatBits .quo .f64 (floatOfInt .f64 v) (floatOfInt .f64 n) = some (fdiv (ofI v) (ofI n)) ∧ isFin (fdiv (ofI v) (ofI n)) := by
  obtain ⟨a1, a2⟩ := ofI_pos h1 h2
  obtain ⟨b1, b2⟩ := ofI_big h3 h4
  have hpos : 0 < fv (ofI n) := by grind
  have hb : (fv (ofI v) / fv (ofI n)).abs ≤ two 1022 := by
    refine Rat.le_trans ?_ big_ge
    have l1 := le_abs (fv (ofI v))
    have l2 := neg_le_abs (fv (ofI v))
    refine abs_le_of (div_le_of hpos ?_) ?_
    · grind
    · rw [show -(fv (ofI v) / fv (ofI n)) = (-fv (ofI v)) / fv (ofI n) by rw [Rat.div_def, Rat.div_def, Rat.neg_mul]]
      refine div_le_of hpos ?_
      grind
  obtain ⟨c1, c2, c3⟩ := fdiv_ok b1 a1 (by grind) hb
  exact ⟨c1, c2⟩

theorem bounds_of {n : Int} (h : (Lit.int .i64 n).wf = true) : -9223372036854775808 ≤ n ∧ n ≤ 9223372036854775807 := by simpa [Lit.wf, IntKind.min, IntKind.max, IntKind.bits, IntKind.signed] using h

theorem cell_two_new (w : World) (o : Obj) (v : Value) (t : TypeId) : ∀ j u, ([v] : List Value)[j]? = some u → ((w.alloc o).alloc (.cells #[v] t)).cell? ((⟨w.heap.size + 1, 0, none⟩ : Addr).add j) = some u := by
  intro j u h
  have h0 := cell_one_new (w.alloc o) v t j u h
  simpa using h0

set_option maxRecDepth 100000 in
set_option maxHeartbeats 2000000 in
theorem Values_1 (A : Option Addr) (k c : Nat) (n : Int) (f : Nat → Nat → Int) (w : World) (h : RowsIn w A k f) (hn : 1 ≤ n) (hn2 : n ≤ 9223372036854775807) (hk1 : 1 ≤ k) (hk : k ≤ 16385) :
    Calls Try.prog 45 #[.slice A k c, .int .i64 n, .int .i64 1] w (Gives w k (quant f n 0)) := by
  obtain ⟨i0, hi, hz0, hz1, hz2⟩ := info_parts Try.info22
  obtain ⟨b, off, rfl, hb, hc⟩ := h.row (by omega)
  have HC := Lib.hid hc
  have HW := Lib.hid h.wf
  clear h hc
  have l1 : ¬ n < 1 := by omega
  have l2 : ¬ (k : Int) < 1 := by omega
  have l3 : ¬ (16385 : Int) < k := by omega
  go_enter Try.func45, Try.ntmps45
  go_wp2_with (refine wpList_make_own _ rfl _ _ 74 rfl w.heap.size 77 i0 (.float .f64 0) 1 Try.underlying74 hi hz0 hz1 .i64 .i64 _ k rfl rfl rfl (by rw [hz2]; omega) (by unfold maxLen; omega) (Nat.le_refl _) ?_; intro w1 hown1 hgrow1)
  have hb1 : Below w.heap.size w w1 := (Below.refl _ w).grown hgrow1 (Nat.le_refl _) (fun _ e => by cases e)
  have HO := Lib.hid hown1
  clear hown1 hgrow1
  go_loopw [8, 37] (fun v i wr => ∃ j : Nat, j ≤ k ∧ i = .int .i64 j ∧ Hid (wr.ownsRow w.heap.size 77 1 v j (cellsOf (quant f n 0) j)) ∧ Below w.heap.size w wr) (fun _ i _ => k - (intOf i).toNat)
  case atStart => exact ⟨0, Nat.zero_le _, rfl, HO, hb1⟩
  case round =>
    clear hb1 HO
    clear w1
    obtain ⟨j, hj, rfl, hown, hbel⟩ := hrel
    by_cases hjk : j < k
    · skip
      have c0 := (hbel.cell (p := ⟨b, off + j * 3, none⟩) hb).trans (HC.out j 0 hjk (by omega))
      have c1 := (hbel.cell (p := ⟨b, off + j * 3 + 1, none⟩) hb).trans (HC.out j 1 hjk (by omega))
      have c2 := (hbel.cell (p := ⟨b, off + j * 3 + 2, none⟩) hb).trans (HC.out j 2 hjk (by omega))
      obtain ⟨q1, q2⟩ := bounds_of (HW.out j 0 hjk (by omega))
      have hq := fun ty W => run_float_arith (P := Try.prog) W .quo ty .f64 _ _ _ (quant_ok hn hn2 q1 q2).1
      have l4 : (j : Int) < k := by omega
      clear q1 q2
      go_wp2_with (at_builtin; refine wpList_append_own _ rfl _ _ 74 rfl w.heap.size 77 i0 (.float .f64 0) 1 8 Try.underlying74 hi hz0 hz1 hz2 rfl (by decide) _ _ _ rfl ((hown.out.alloc _).alloc _) ⟨_, 0, none⟩ 1 1 [.float .f64 (quant f n 0 j)] rfl rfl (cell_two_new _ _ _ _) (by simp [Value.oneCell']) (by unfold maxLen; omega) (by omega) (by have := hbel.size; simp; omega) ?_; intro v' w2 hown' hgrow _)
      have R := own_step (g := quant f n 0) hown.out ((hbel.alloc hbel.size _).alloc (by have := hbel.size; simp; omega) _) hgrow hown'
      clear hown' hgrow hown
      go_wp2
      go_roundw
      case rel => exact ⟨j + 1, by omega, by go_num, R.1, R.2⟩
      case measure => simp [intOf]; omega
    · have l4 : ¬ (j : Int) < k := by omega
      have hkk : j = k := by omega
      subst hkk
      obtain ⟨C, cc, rfl, hR⟩ := own_rowF hown.out
      have HR := Lib.hid hR
      clear hR hown
      go_wp2
      go_ret2
      exact ⟨⟨C, cc, rfl, HR⟩, hbel⟩

set_option maxRecDepth 100000 in
set_option maxHeartbeats 2000000 in
theorem Values_2 (A : Option Addr) (k c : Nat) (n : Int) (f : Nat → Nat → Int) (w : World) (h : RowsIn w A k f) (hn : 1 ≤ n) (hn2 : n ≤ 9223372036854775807) (hk1 : 1 ≤ k) (hk : k ≤ 16385) :
    Calls Try.prog 45 #[.slice A k c, .int .i64 n, .int .i64 2] w (Gives w k (quant f n 1)) := by
  obtain ⟨i0, hi, hz0, hz1, hz2⟩ := info_parts Try.info22
  obtain ⟨b, off, rfl, hb, hc⟩ := h.row (by omega)
  have HC := Lib.hid hc
  have HW := Lib.hid h.wf
  clear h hc
  have l1 : ¬ n < 1 := by omega
  have l2 : ¬ (k : Int) < 1 := by omega
  have l3 : ¬ (16385 : Int) < k := by omega
  go_enter Try.func45, Try.ntmps45
  go_wp2_with (refine wpList_make_own _ rfl _ _ 74 rfl w.heap.size 77 i0 (.float .f64 0) 1 Try.underlying74 hi hz0 hz1 .i64 .i64 _ k rfl rfl rfl (by rw [hz2]; omega) (by unfold maxLen; omega) (Nat.le_refl _) ?_; intro w1 hown1 hgrow1)
  have hb1 : Below w.heap.size w w1 := (Below.refl _ w).grown hgrow1 (Nat.le_refl _) (fun _ e => by cases e)
  have HO := Lib.hid hown1
  clear hown1 hgrow1
  go_loopw [8, 37] (fun v i wr => ∃ j : Nat, j ≤ k ∧ i = .int .i64 j ∧ Hid (wr.ownsRow w.heap.size 77 1 v j (cellsOf (quant f n 1) j)) ∧ Below w.heap.size w wr) (fun _ i _ => k - (intOf i).toNat)
  case atStart => exact ⟨0, Nat.zero_le _, rfl, HO, hb1⟩
  case round =>
    clear hb1 HO
    clear w1
    obtain ⟨j, hj, rfl, hown, hbel⟩ := hrel
    by_cases hjk : j < k
    · skip
      have c0 := (hbel.cell (p := ⟨b, off + j * 3, none⟩) hb).trans (HC.out j 0 hjk (by omega))
      have c1 := (hbel.cell (p := ⟨b, off + j * 3 + 1, none⟩) hb).trans (HC.out j 1 hjk (by omega))
      have c2 := (hbel.cell (p := ⟨b, off + j * 3 + 2, none⟩) hb).trans (HC.out j 2 hjk (by omega))
      obtain ⟨q1, q2⟩ := bounds_of (HW.out j 1 hjk (by omega))
      have hq := fun ty W => run_float_arith (P := Try.prog) W .quo ty .f64 _ _ _ (quant_ok hn hn2 q1 q2).1
      have l4 : (j : Int) < k := by omega
      clear q1 q2
      go_wp2_with (at_builtin; refine wpList_append_own _ rfl _ _ 74 rfl w.heap.size 77 i0 (.float .f64 0) 1 8 Try.underlying74 hi hz0 hz1 hz2 rfl (by decide) _ _ _ rfl ((hown.out.alloc _).alloc _) ⟨_, 0, none⟩ 1 1 [.float .f64 (quant f n 1 j)] rfl rfl (cell_two_new _ _ _ _) (by simp [Value.oneCell']) (by unfold maxLen; omega) (by omega) (by have := hbel.size; simp; omega) ?_; intro v' w2 hown' hgrow _)
      have R := own_step (g := quant f n 1) hown.out ((hbel.alloc hbel.size _).alloc (by have := hbel.size; simp; omega) _) hgrow hown'
      clear hown' hgrow hown
      go_wp2
      go_roundw
      case rel => exact ⟨j + 1, by omega, by go_num, R.1, R.2⟩
      case measure => simp [intOf]; omega
    · have l4 : ¬ (j : Int) < k := by omega
      have hkk : j = k := by omega
      subst hkk
      obtain ⟨C, cc, rfl, hR⟩ := own_rowF hown.out
      have HR := Lib.hid hR
      clear hR hown
      go_wp2
      go_ret2
      exact ⟨⟨C, cc, rfl, HR⟩, hbel⟩

set_option maxRecDepth 100000 in
set_option maxHeartbeats 2000000 in
theorem Values_3 (A : Option Addr) (k c : Nat) (n : Int) (f : Nat → Nat → Int) (w : World) (h : RowsIn w A k f) (hn : 1 ≤ n) (hn2 : n ≤ 9223372036854775807) (hk1 : 1 ≤ k) (hk : k ≤ 16385) :
    Calls Try.prog 45 #[.slice A k c, .int .i64 n, .int .i64 3] w (Gives w k (quant f n 2)) := by
  obtain ⟨i0, hi, hz0, hz1, hz2⟩ := info_parts Try.info22
  obtain ⟨b, off, rfl, hb, hc⟩ := h.row (by omega)
  have HC := Lib.hid hc
  have HW := Lib.hid h.wf
  clear h hc
  have l1 : ¬ n < 1 := by omega
  have l2 : ¬ (k : Int) < 1 := by omega
  have l3 : ¬ (16385 : Int) < k := by omega
  go_enter Try.func45, Try.ntmps45
  go_wp2_with (refine wpList_make_own _ rfl _ _ 74 rfl w.heap.size 77 i0 (.float .f64 0) 1 Try.underlying74 hi hz0 hz1 .i64 .i64 _ k rfl rfl rfl (by rw [hz2]; omega) (by unfold maxLen; omega) (Nat.le_refl _) ?_; intro w1 hown1 hgrow1)
  have hb1 : Below w.heap.size w w1 := (Below.refl _ w).grown hgrow1 (Nat.le_refl _) (fun _ e => by cases e)
  have HO := Lib.hid hown1
  clear hown1 hgrow1
  go_loopw [8, 37] (fun v i wr => ∃ j : Nat, j ≤ k ∧ i = .int .i64 j ∧ Hid (wr.ownsRow w.heap.size 77 1 v j (cellsOf (quant f n 2) j)) ∧ Below w.heap.size w wr) (fun _ i _ => k - (intOf i).toNat)
  case atStart => exact ⟨0, Nat.zero_le _, rfl, HO, hb1⟩
  case round =>
    clear hb1 HO
    clear w1
    obtain ⟨j, hj, rfl, hown, hbel⟩ := hrel
    by_cases hjk : j < k
    · skip
      have c0 := (hbel.cell (p := ⟨b, off + j * 3, none⟩) hb).trans (HC.out j 0 hjk (by omega))
      have c1 := (hbel.cell (p := ⟨b, off + j * 3 + 1, none⟩) hb).trans (HC.out j 1 hjk (by omega))
      have c2 := (hbel.cell (p := ⟨b, off + j * 3 + 2, none⟩) hb).trans (HC.out j 2 hjk (by omega))
      obtain ⟨q1, q2⟩ := bounds_of (HW.out j 2 hjk (by omega))
      have hq := fun ty W => run_float_arith (P := Try.prog) W .quo ty .f64 _ _ _ (quant_ok hn hn2 q1 q2).1
      have l4 : (j : Int) < k := by omega
      clear q1 q2
      go_wp2_with (at_builtin; refine wpList_append_own _ rfl _ _ 74 rfl w.heap.size 77 i0 (.float .f64 0) 1 8 Try.underlying74 hi hz0 hz1 hz2 rfl (by decide) _ _ _ rfl ((hown.out.alloc _).alloc _) ⟨_, 0, none⟩ 1 1 [.float .f64 (quant f n 2 j)] rfl rfl (cell_two_new _ _ _ _) (by simp [Value.oneCell']) (by unfold maxLen; omega) (by omega) (by have := hbel.size; simp; omega) ?_; intro v' w2 hown' hgrow _)
      have R := own_step (g := quant f n 2) hown.out ((hbel.alloc hbel.size _).alloc (by have := hbel.size; simp; omega) _) hgrow hown'
      clear hown' hgrow hown
      go_wp2
      go_roundw
      case rel => exact ⟨j + 1, by omega, by go_num, R.1, R.2⟩
      case measure => simp [intOf]; omega
    · have l4 : ¬ (j : Int) < k := by omega
      have hkk : j = k := by omega
      subst hkk
      obtain ⟨C, cc, rfl, hR⟩ := own_rowF hown.out
      have HR := Lib.hid hR
      clear hR hown
      go_wp2
      go_ret2
      exact ⟨⟨C, cc, rfl, HR⟩, hbel⟩

set_option maxRecDepth 100000 in
set_option maxHeartbeats 1000000 in
theorem Values_bad (A : Option Addr) (k c : Nat) (n what : Int) (w : World) (h : n < 1 ∨ (1 ≤ n ∧ what < 1) ∨ (1 ≤ n ∧ 3 < what) ∨ (1 ≤ n ∧ 1 ≤ what ∧ what ≤ 3 ∧ k < 1)) :
    Calls Try.prog 45 #[.slice A k c, .int .i64 n, .int .i64 what] w (Fails w 2) := by
  rcases h with h | ⟨h1, h2⟩ | ⟨h1, h2⟩ | ⟨h1, h2, h3, h4⟩
  · go_enter Try.func45, Try.ntmps45
    go_wp2
    go_ret2
    exact ⟨rfl, Below.refl _ _⟩
  · have l1 : ¬ n < 1 := by omega
    go_enter Try.func45, Try.ntmps45
    go_wp2
    go_ret2
    exact ⟨rfl, Below.refl _ _⟩
  · have l1 : ¬ n < 1 := by omega
    have l2 : ¬ what < 1 := by omega
    go_enter Try.func45, Try.ntmps45
    go_wp2
    go_ret2
    exact ⟨rfl, Below.refl _ _⟩
  · have l1 : ¬ n < 1 := by omega
    have l2 : ¬ what < 1 := by omega
    have l3 : ¬ 3 < what := by omega
    have l4 : (k : Int) < 1 := by omega
    go_enter Try.func45, Try.ntmps45
    go_wp2
    go_ret2
    exact ⟨rfl, Below.refl _ _⟩

theorem RowsIn.below {w wr : World} {A : Option Addr} {n : Nat} {f : Nat → Nat → Int} (h : RowsIn w A n f) (hb : Below w.heap.size w wr) : RowsIn wr A n f where
  row h0 := by
    obtain ⟨b, off, hA, hlt, hc⟩ := h.row h0
    exact ⟨b, off, hA, by have := hb.size; omega, fun j i hj hi => (hb.cell (p := ⟨b, off + j * 3 + i, none⟩) hlt).trans (hc j i hj hi)⟩
  wf := h.wf
  len := h.len

end Go.Proofs.Ytbafacdknaopjaa.X

/-
  Lists of small numbers, and probabilities of 1024ths: what canon.Average asks.
-/
namespace Go.Proofs.Ytbafacdknaopjaa.X
open Go.RowKit Go.Fl Go.Deep

theorem inB_small {x : Nat} (h : isFin x) (hb : (fv x).abs ≤ 1267650600228229401496703205376) : inB x = true := by
  unfold inB
  refine (fle_iff (isFin_abs h) isFin_most).2 ?_
  rw [fv_abs h, fv_most]
  exact hb

theorem ch_lt {k : Nat} (h : k ≤ 1024) : ch k < 2 ^ 64 := by have := (ch_ok h).2.1; unfold isFin at this; omega

theorem absb_ch {k : Nat} (h : k ≤ 1024) : absb (ch k) = ch k := by
  rcases Nat.eq_zero_or_pos k with rfl | hk
  · decide +kernel
  · refine abs_of_pos (ch_ok h).2.1 ?_
    rw [(ch_ok h).2.2]
    have hk1 : (1 : Rat) ≤ (k : Rat) := natc (a := 1) hk
    grind

theorem ok_ch {m k : Nat} (hm : m ≤ 16384) (h : k ≤ 1024) : Ok m (ch k) := by
  have := ok_abs (m := m) hm (ch_lt h) (ch_prob h)
  rwa [absb_ch h] at this

theorem small_list {n : Nat} {f : Nat → Nat} (h1 : 1 ≤ n) (h2 : n ≤ 16385) (h : ∀ j, j < n → isFin (f j) ∧ 0 ≤ fv (f j) ∧ fv (f j) ≤ 1) : listB n f = true :=
  listB_true h1 h2 fun j hj => inB_small (h j hj).1 (by
    obtain ⟨_, a, b⟩ := h j hj
    rw [Rat.abs_of_nonneg a]
    exact Rat.le_trans b (by decide +kernel))

end Go.Proofs.Ytbafacdknaopjaa.X
