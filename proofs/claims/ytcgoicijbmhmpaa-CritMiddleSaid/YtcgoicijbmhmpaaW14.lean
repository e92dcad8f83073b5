/-
  The walk of the law on averages and slopes.
-/
import Derived.Test.YtcgoicijbmhmpaaW13
import Derived.Laws.AppendOwnNone
namespace Go.Proofs.Ytcgoicijbmhmpaa
open Go.RowKit Go.Fl Go.Deep

/-- What a call of an average or a slope answers: a number and a word on it. -/
def Says (x : Nat) (z : Int) (w : World) (e : Ending) (w' : World) : Prop := e = .returned (.tuple #[.float .f64 x, .int .i64 z]) ∧ Below w.heap.size w w'

theorem avg_both (n p : Nat) (f : Nat → Nat) (hp : p < 2 ^ 64) : ∃ x z, (∀ W A c, ListIn W A n f → Calls Try.prog 31 #[.slice A n c, .float .f64 p] W (Says x z W)) ∧ (∀ W A c, ListIn W A n f → Calls Try.prog 32 #[.slice A n c, .float .f64 p] W (Says x z W)) := by
  cases hl : listB n f && prob p with
  | false =>
    refine ⟨0, 2, fun W A c h => (Average_bad A n c p f W h hl).mono ?_, fun W A c h => (refAverage_bad A n c p f W h hl).mono ?_⟩ <;>
    · rintro e w' ⟨rfl, rfl⟩
      exact ⟨rfl, Below.refl _ _⟩
  | true =>
    obtain ⟨h1, h2⟩ := (Bool.and_eq_true _ _).mp hl
    exact ⟨_, 0, fun W A c h => Average_ok A n c p f W h hp h1 h2, fun W A c h => refAverage_ok A n c p f W h hp h1 h2⟩

theorem slope_both (n p : Nat) (f : Nat → Nat) (hp : p < 2 ^ 64) : ∃ x z, (∀ W A c, ListIn W A n f → Calls Try.prog 33 #[.slice A n c, .float .f64 p] W (Says x z W)) ∧ (∀ W A c, ListIn W A n f → Calls Try.prog 34 #[.slice A n c, .float .f64 p] W (Says x z W)) := by
  cases hl : listB n f && prob p with
  | false => exact ⟨0, 2, fun W A c h => Slope_bad A n c p f W h hl, fun W A c h => refSlope_bad A n c p f W h hl⟩
  | true =>
    obtain ⟨h1, h2⟩ := (Bool.and_eq_true _ _).mp hl
    match n, h1, (listB_parts h1).1 with
    | 1, h1, _ => exact ⟨_, 0, fun W A c h => Slope_one A c p f W h h1 h2, fun W A c h => refSlope_one A c p f W h h1 h2⟩
    | m + 2, h1, _ => exact ⟨_, 0, fun W A c h => Slope_ok A m c p f W h hp h1 h2, fun W A c h => refSlope_ok A m c p f W h hp h1 h2⟩

theorem chain7 {a b c d e f g h : World} (h1 : Below a.heap.size a b) (h2 : Below b.heap.size b c) (h3 : Below c.heap.size c d) (h4 : Below d.heap.size d e) (h5 : Below e.heap.size e f) (h6 : Drawn f g) (h7 : Below g.heap.size g h) : Below a.heap.size a h := by
  have s1 := h1.size; have s2 := h2.size; have s3 := h3.size; have s4 := h4.size; have s5 := h5.size; have s6 := h6.size
  exact (((((h1.trans (h2.mono (by omega))).trans (h3.mono (by omega))).trans (h4.mono (by omega))).trans (h5.mono (by omega))).trans (h6.below _)).trans (h7.mono (by omega))

theorem own_none (w : World) : (w.alloc (.cells #[] 22)).ownsRow w.heap.size 22 1 (.slice (some ⟨w.heap.size, 0, none⟩) 0 0) 0 (cellsOf (fun _ => 0) 0) :=
  ⟨rfl, Or.inr ⟨w.heap.size, 0, #[], rfl, Nat.le_refl _, World.alloc_heap_new w _, Nat.le_refl _, by unfold maxLen; omega, rfl, rfl⟩⟩

theorem cellsOf_mem {f : Nat → Nat} {n : Nat} {u : Value} (h : u ∈ cellsOf f n) : u.oneCell' = true := by
  unfold cellsOf at h
  obtain ⟨j, _, rfl⟩ := List.mem_map.1 h
  simp [Value.oneCell']

theorem cellsOf_length (f : Nat → Nat) (n : Nat) : (cellsOf f n).length = n * 1 := by unfold cellsOf; simp

theorem cellsOf_lie {W : World} {b off n : Nat} {f : Nat → Nat} (h : FloatsAt W b off n f) : ∀ j u, (cellsOf f n)[j]? = some u → W.cell? ((⟨b, off, none⟩ : Addr).add j) = some u := by
  intro j u hu
  have hj : j < n := by
    have := (List.getElem?_eq_some_iff.1 hu).1
    rw [cellsOf_length] at this
    omega
  rw [cellsOf_get f n j hj] at hu
  obtain rfl : Value.float .f64 (f j) = u := by simpa using hu
  have := h j hj
  unfold Addr.add
  split
  · rename_i h0
    subst h0
    exact this
  · exact this

set_option maxRecDepth 100000 in
theorem averages_skip (A : Option Addr) (n c p : Nat) (w : World) (h1 : (400 : Int) < n) (h2 : (n : Int) ≤ 16385) :
    Calls Try.prog 5 #[.slice A n c, .float .f64 p] w fun e w' => e = .returned (.bool true) ∧ Below w.heap.size w w' := by
  go_enter Try.func5, Try.ntmps5
  go_wp2_with (go_at_call 27; refine (works_any _).mono ?_; rintro e w1 ⟨rfl, hb1⟩)
  go_ret
  exact ⟨rfl, hb1⟩

set_option maxRecDepth 100000 in
set_option maxHeartbeats 1000000 in
theorem averages_row1 (b off n c p : Nat) (f : Nat → Nat) (w : World) (hs : (n : Int) ≤ 400) (h : ListIn w (some ⟨b, off, none⟩) n f) (hb : b < w.heap.size) (hc : FloatsAt w b off n f) (hp : p < 2 ^ 64) :
    Calls Try.prog 5 #[.slice (some ⟨b, off, none⟩) n c, .float .f64 p] w fun e w' => e = .returned (.bool true) ∧ Below w.heap.size w w' := by
  obtain ⟨X, E, C1, C2⟩ := avg_both n p f hp
  obtain ⟨Y, G, C3, C4⟩ := slope_both n p f hp
  have C1 := Lib.hid C1
  have C2 := Lib.hid C2
  have C3 := Lib.hid C3
  have C4 := Lib.hid C4
  have HO := Lib.hid (own_none w)
  obtain ⟨i0, hi, hz0, hz1, hz2⟩ := info_parts Try.info22
  go_enter Try.func5, Try.ntmps5
  go_wp2_with (at_builtin; refine wpList_append_own _ rfl _ _ 24 rfl w.heap.size 22 i0 (.float .f64 0) 1 8 Try.underlying24 hi hz0 hz1 hz2 rfl (by decide) _ 0 _ rfl HO.out ⟨b, off, none⟩ n c (cellsOf f n) rfl (cellsOf_length f n) (cellsOf_lie (fun j hj => (((Below.refl w.heap.size w).alloc (Nat.le_refl _) _).cell (p := ⟨b, off + j, none⟩) hb).trans (hc j hj))) (fun u hu => cellsOf_mem hu) (by have := h.len; omega) (by omega) (by simp) ?_; intro v' w1 hown' hgrow _)
  have hbw : Below w.heap.size w w1 := (((Below.refl w.heap.size w).alloc (Nat.le_refl _) _)).grown hgrow (by simp) (own_ge HO.out)
  have hown2 : w1.ownsRow w.heap.size 22 1 v' n (cellsOf f n) := by have h0 := hown'; rw [Nat.zero_add] at h0; exact h0
  have HV := own_rowF hown2
  clear hown' hgrow hown2 hc HO
  obtain ⟨G, cg, rfl, hrow⟩ := HV
  have L1 := Lib.hid (ListIn.mk hrow h.wf h.len)
  have L0 := Lib.hid (h.below hbw)
  have H := Lib.hid h
  clear hrow h
  go_wp2_with fail
  refine (C1.out _ _ _ L1.out).mono ?_
  rintro e w2 ⟨rfl, hb2⟩
  have L0a := Lib.hid (L0.out.below hb2)
  have L1a := Lib.hid (L1.out.below hb2)
  go_wp2_with fail
  refine (C2.out _ _ _ L0a.out).mono ?_
  rintro e w3 ⟨rfl, hb3⟩
  have L0b := Lib.hid (L0a.out.below hb3)
  have L1b := Lib.hid (L1a.out.below hb3)
  clear L0 L1 L0a L1a
  go_wp2_with fail
  refine (C3.out _ _ _ L1b.out).mono ?_
  rintro e w4 ⟨rfl, hb4⟩
  have L0c := Lib.hid (L0b.out.below hb4)
  have L1c := Lib.hid (L1b.out.below hb4)
  go_wp2_with fail
  refine (C4.out _ _ _ L0c.out).mono ?_
  rintro e w5 ⟨rfl, hb5⟩
  have L0d := Lib.hid (L0c.out.below hb5)
  have L1d := Lib.hid (L1c.out.below hb5)
  clear L0b L1b L0c L1c
  go_wp2_with fail
  refine (one_any X X w5).mono ?_
  rintro e w6 ⟨rfl, rfl⟩
  go_wp2_with fail
  refine (one_any Y Y w5).mono ?_
  rintro e w6 ⟨rfl, rfl⟩
  go_wp2_with fail
  refine (same_yes _ _ n _ _ _ _ w5 L1d.out.row L0d.out.row L1d.out.len (fun _ _ => rfl)).mono ?_
  rintro e w6 ⟨rfl, hd6⟩
  go_wp2_with (go_at_call 27; refine (works_any _).mono ?_; rintro e w7 ⟨rfl, hb7⟩)
  go_ret
  exact ⟨rfl, chain7 hbw hb2 hb3 hb4 hb5 hd6 hb7⟩

set_option maxRecDepth 100000 in
set_option maxHeartbeats 1000000 in
theorem averages_row2 (b off n c p : Nat) (f : Nat → Nat) (w : World) (hs : (16385 : Int) < n) (h : ListIn w (some ⟨b, off, none⟩) n f) (hb : b < w.heap.size) (hc : FloatsAt w b off n f) (hp : p < 2 ^ 64) (room : n * 8 ≤ 140737488355328) :
    Calls Try.prog 5 #[.slice (some ⟨b, off, none⟩) n c, .float .f64 p] w fun e w' => e = .returned (.bool true) ∧ Below w.heap.size w w' := by
  obtain ⟨X, E, C1, C2⟩ := avg_both n p f hp
  obtain ⟨Y, G, C3, C4⟩ := slope_both n p f hp
  have C1 := Lib.hid C1
  have C2 := Lib.hid C2
  have C3 := Lib.hid C3
  have C4 := Lib.hid C4
  have HO := Lib.hid (own_none w)
  obtain ⟨i0, hi, hz0, hz1, hz2⟩ := info_parts Try.info22
  have hs1 : (400 : Int) < n := by omega
  have hs2 : ¬ (n : Int) ≤ 16385 := by omega
  go_enter Try.func5, Try.ntmps5
  go_wp2_with (at_builtin; refine wpList_append_own _ rfl _ _ 24 rfl w.heap.size 22 i0 (.float .f64 0) 1 8 Try.underlying24 hi hz0 hz1 hz2 rfl (by decide) _ 0 _ rfl HO.out ⟨b, off, none⟩ n c (cellsOf f n) rfl (cellsOf_length f n) (cellsOf_lie (fun j hj => (((Below.refl w.heap.size w).alloc (Nat.le_refl _) _).cell (p := ⟨b, off + j, none⟩) hb).trans (hc j hj))) (fun u hu => cellsOf_mem hu) (by have := h.len; omega) (by omega) (by simp) ?_; intro v' w1 hown' hgrow _)
  have hbw : Below w.heap.size w w1 := (((Below.refl w.heap.size w).alloc (Nat.le_refl _) _)).grown hgrow (by simp) (own_ge HO.out)
  have hown2 : w1.ownsRow w.heap.size 22 1 v' n (cellsOf f n) := by have h0 := hown'; rw [Nat.zero_add] at h0; exact h0
  have HV := own_rowF hown2
  clear hown' hgrow hown2 hc HO
  obtain ⟨G, cg, rfl, hrow⟩ := HV
  have L1 := Lib.hid (ListIn.mk hrow h.wf h.len)
  have L0 := Lib.hid (h.below hbw)
  have H := Lib.hid h
  clear hrow h
  go_wp2_with fail
  refine (C1.out _ _ _ L1.out).mono ?_
  rintro e w2 ⟨rfl, hb2⟩
  have L0a := Lib.hid (L0.out.below hb2)
  have L1a := Lib.hid (L1.out.below hb2)
  go_wp2_with fail
  refine (C2.out _ _ _ L0a.out).mono ?_
  rintro e w3 ⟨rfl, hb3⟩
  have L0b := Lib.hid (L0a.out.below hb3)
  have L1b := Lib.hid (L1a.out.below hb3)
  clear L0 L1 L0a L1a
  go_wp2_with fail
  refine (C3.out _ _ _ L1b.out).mono ?_
  rintro e w4 ⟨rfl, hb4⟩
  have L0c := Lib.hid (L0b.out.below hb4)
  have L1c := Lib.hid (L1b.out.below hb4)
  go_wp2_with fail
  refine (C4.out _ _ _ L0c.out).mono ?_
  rintro e w5 ⟨rfl, hb5⟩
  have L0d := Lib.hid (L0c.out.below hb5)
  have L1d := Lib.hid (L1c.out.below hb5)
  clear L0b L1b L0c L1c
  go_wp2_with fail
  refine (one_any X X w5).mono ?_
  rintro e w6 ⟨rfl, rfl⟩
  go_wp2_with fail
  refine (one_any Y Y w5).mono ?_
  rintro e w6 ⟨rfl, rfl⟩
  go_wp2_with fail
  refine (same_yes _ _ n _ _ _ _ w5 L1d.out.row L0d.out.row L1d.out.len (fun _ _ => rfl)).mono ?_
  rintro e w6 ⟨rfl, hd6⟩
  go_wp2_with (go_at_call 27; refine (works_any _).mono ?_; rintro e w7 ⟨rfl, hb7⟩)
  go_ret
  exact ⟨rfl, chain7 hbw hb2 hb3 hb4 hb5 hd6 hb7⟩

set_option maxRecDepth 100000 in
set_option maxHeartbeats 1000000 in
theorem averages_none (n p : Nat) (f : Nat → Nat) (w : World) (hn : n = 0) (h : ListIn w none n f) (hp : p < 2 ^ 64) :
    Calls Try.prog 5 #[.slice none 0 0, .float .f64 p] w fun e w' => e = .returned (.bool true) ∧ Below w.heap.size w w' := by
  obtain ⟨X, E, C1, C2⟩ := avg_both n p f hp
  obtain ⟨Y, G, C3, C4⟩ := slope_both n p f hp
  have C1 := Lib.hid C1
  have C2 := Lib.hid C2
  have C3 := Lib.hid C3
  have C4 := Lib.hid C4
  have HO := Lib.hid (own_none w)
  obtain ⟨i0, hi, hz0, hz1, hz2⟩ := info_parts Try.info22
  go_enter Try.func5, Try.ntmps5
  go_wp2_with (at_builtin; refine wpList_append_own_none rfl _ _ 24 rfl w.heap.size 22 i0 1 Try.underlying24 hi _ 0 _ rfl HO.out rfl ?_)
  have hbw : Below w.heap.size w (w.alloc (.cells #[] 22)) := (Below.refl w.heap.size w).alloc (Nat.le_refl _) _
  subst hn
  have L1 := Lib.hid (show ListIn (w.alloc (.cells #[] 22)) (some ⟨w.heap.size, 0, none⟩) 0 f from ⟨fun h => by omega, h.wf, h.len⟩)
  have L0 := Lib.hid (h.below hbw)
  have H := Lib.hid h
  clear h HO
  refine (C1.out _ _ _ L1.out).mono ?_
  rintro e w2 ⟨rfl, hb2⟩
  have L0a := Lib.hid (L0.out.below hb2)
  have L1a := Lib.hid (L1.out.below hb2)
  go_wp2_with fail
  refine (C2.out _ _ _ L0a.out).mono ?_
  rintro e w3 ⟨rfl, hb3⟩
  have L0b := Lib.hid (L0a.out.below hb3)
  have L1b := Lib.hid (L1a.out.below hb3)
  clear L0 L1 L0a L1a
  go_wp2_with fail
  refine (C3.out _ _ _ L1b.out).mono ?_
  rintro e w4 ⟨rfl, hb4⟩
  have L0c := Lib.hid (L0b.out.below hb4)
  have L1c := Lib.hid (L1b.out.below hb4)
  go_wp2_with fail
  refine (C4.out _ _ _ L0c.out).mono ?_
  rintro e w5 ⟨rfl, hb5⟩
  have L0d := Lib.hid (L0c.out.below hb5)
  have L1d := Lib.hid (L1c.out.below hb5)
  clear L0b L1b L0c L1c
  go_wp2_with fail
  refine (one_any X X w5).mono ?_
  rintro e w6 ⟨rfl, rfl⟩
  go_wp2_with fail
  refine (one_any Y Y w5).mono ?_
  rintro e w6 ⟨rfl, rfl⟩
  go_wp2_with fail
  refine (same_yes _ _ 0 _ _ _ _ w5 L1d.out.row L0d.out.row L1d.out.len (fun _ _ => rfl)).mono ?_
  rintro e w6 ⟨rfl, hd6⟩
  go_wp2_with (go_at_call 27; refine (works_any _).mono ?_; rintro e w7 ⟨rfl, hb7⟩)
  go_ret
  exact ⟨rfl, chain7 hbw hb2 hb3 hb4 hb5 hd6 hb7⟩

set_option maxRecDepth 100000 in
set_option maxHeartbeats 1000000 in
theorem averages_empty (a : Addr) (c p : Nat) (f : Nat → Nat) (w : World) (h : ListIn w (some a) 0 f) (hp : p < 2 ^ 64) :
    Calls Try.prog 5 #[.slice (some a) 0 c, .float .f64 p] w fun e w' => e = .returned (.bool true) ∧ Below w.heap.size w w' := by
  obtain ⟨X, E, C1, C2⟩ := avg_both 0 p f hp
  obtain ⟨Y, G, C3, C4⟩ := slope_both 0 p f hp
  have C1 := Lib.hid C1
  have C2 := Lib.hid C2
  have C3 := Lib.hid C3
  have C4 := Lib.hid C4
  have HO := Lib.hid (own_none w)
  obtain ⟨i0, hi, hz0, hz1, hz2⟩ := info_parts Try.info22
  go_enter Try.func5, Try.ntmps5
  go_wp2_with (at_builtin; refine wpList_append_own _ rfl _ _ 24 rfl w.heap.size 22 i0 (.float .f64 0) 1 8 Try.underlying24 hi hz0 hz1 hz2 rfl (by decide) _ 0 _ rfl HO.out a 0 c (cellsOf f 0) rfl (cellsOf_length f 0) (fun j u hu => by simp [cellsOf] at hu) (fun u hu => cellsOf_mem hu) (by have := h.len; omega) (by omega) (by simp) ?_; intro v' w1 hown' hgrow _)
  have hbw : Below w.heap.size w w1 := (((Below.refl w.heap.size w).alloc (Nat.le_refl _) _)).grown hgrow (by simp) (own_ge HO.out)
  have hown2 : w1.ownsRow w.heap.size 22 1 v' 0 (cellsOf f 0) := by have h0 := hown'; rw [Nat.zero_add] at h0; exact h0
  have HV := own_rowF hown2
  clear hown' hgrow hown2 HO
  obtain ⟨G, cg, rfl, hrow⟩ := HV
  have L1 := Lib.hid (ListIn.mk hrow h.wf h.len)
  have L0 := Lib.hid (h.below hbw)
  have H := Lib.hid h
  clear hrow h
  go_wp2_with fail
  refine (C1.out _ _ _ L1.out).mono ?_
  rintro e w2 ⟨rfl, hb2⟩
  have L0a := Lib.hid (L0.out.below hb2)
  have L1a := Lib.hid (L1.out.below hb2)
  go_wp2_with fail
  refine (C2.out _ _ _ L0a.out).mono ?_
  rintro e w3 ⟨rfl, hb3⟩
  have L0b := Lib.hid (L0a.out.below hb3)
  have L1b := Lib.hid (L1a.out.below hb3)
  clear L0 L1 L0a L1a
  go_wp2_with fail
  refine (C3.out _ _ _ L1b.out).mono ?_
  rintro e w4 ⟨rfl, hb4⟩
  have L0c := Lib.hid (L0b.out.below hb4)
  have L1c := Lib.hid (L1b.out.below hb4)
  go_wp2_with fail
  refine (C4.out _ _ _ L0c.out).mono ?_
  rintro e w5 ⟨rfl, hb5⟩
  have L0d := Lib.hid (L0c.out.below hb5)
  have L1d := Lib.hid (L1c.out.below hb5)
  clear L0b L1b L0c L1c
  go_wp2_with fail
  refine (one_any X X w5).mono ?_
  rintro e w6 ⟨rfl, rfl⟩
  go_wp2_with fail
  refine (one_any Y Y w5).mono ?_
  rintro e w6 ⟨rfl, rfl⟩
  go_wp2_with fail
  refine (same_yes _ _ 0 _ _ _ _ w5 L1d.out.row L0d.out.row L1d.out.len (fun _ _ => rfl)).mono ?_
  rintro e w6 ⟨rfl, hd6⟩
  go_wp2_with (go_at_call 27; refine (works_any _).mono ?_; rintro e w7 ⟨rfl, hb7⟩)
  go_ret
  exact ⟨rfl, chain7 hbw hb2 hb3 hb4 hb5 hd6 hb7⟩

theorem canonAverages_walk (A : Option Addr) (n c : Nat) (f : Nat → Nat) (p : Nat) (w : World) (h : ListIn w A n f) (hA : A = none → c = 0) (hp : p < 2 ^ 64) (room : n * 8 ≤ 140737488355328) :
    Calls Try.prog 5 #[.slice A n c, .float .f64 p] w fun e w' => e = .returned (.bool true) ∧ Below w.heap.size w w' := by
  by_cases h1 : 400 < n ∧ n ≤ 16385
  · exact averages_skip A n c p w (by omega) (by omega)
  · cases A with
    | none =>
      obtain rfl := hA rfl
      have hn : n = 0 := by
        rcases Nat.eq_zero_or_pos n with h0 | h0
        · exact h0
        · obtain ⟨b, off, hh, _⟩ := h.row h0
          cases hh
      subst hn
      exact averages_none 0 p f w rfl h hp
    | some a =>
      rcases Nat.eq_zero_or_pos n with h0 | h0
      · subst h0
        exact averages_empty a c p f w h hp
      · obtain ⟨b, off, hh, hb, hc⟩ := h.row h0
        cases hh
        by_cases h2 : n ≤ 400
        · exact averages_row1 b off n c p f w (by omega) h hb hc hp
        · exact averages_row2 b off n c p f w (by omega) h hb hc hp room
end Go.Proofs.Ytcgoicijbmhmpaa
