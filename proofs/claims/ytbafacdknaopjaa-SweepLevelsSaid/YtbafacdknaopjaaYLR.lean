import Derived.BigQuiet
import Derived.Deep.RegionLaw
import Derived.Test.YtbafacdknaopjaaYK3
import Derived.Test.YtbafacdknaopjaaYM
import Derived.Test.YtbafacdknaopjaaYQ
import Derived.Test.YtbafacdknaopjaaYE3
/-
  The reference of chapter 27: Levels.
-/
namespace Go.Proofs.Ytbafacdknaopjaa
open Go.RowKit
attribute [local go_sem] Oper.semAt_some
set_option linter.unusedSimpArgs false
set_option linter.unusedSectionVars false

/-- What the reference's Levels returns. -/
def RLevelsPost (n : Int) (me : Nat) (u v x : Nat → Int) (w : World) (k : Int) (e : Ending) (w' : World) : Prop :=
  (k ≠ 0 ∧ e = .returned (.tuple #[.slice none 0 0, .int .i64 k]) ∧ Only [] w w') ∨
    (k = 0 ∧ ∃ r th vo, Lev me x r th ∧ e = .returned (.tuple #[vo, .int .i64 0]) ∧ w'.ownsRow w.heap.size 93 4 vo r (levT n.toNat (nat u) (nat v) me x th r) ∧ Only [] w w')
/-- The lists that grow. -/
structure LvI (w : World) (vs : Value) (l : List Nat) (u v x : Nat → Int) (vo : Value) (r : Nat) (ys : List Value) (wr : World) : Prop where
  some : wr.ownsRow w.heap.size 70 3 vs l.length (edgesOf u v x l)
  out : wr.ownsRow w.heap.size 93 4 vo r ys
  bel : Below w.heap.size w wr
theorem LvI.only {w : World} {vs vo : Value} {l : List Nat} {u v x : Nat → Int} {r : Nat} {ys : List Value} {wr W : World} (h : LvI w vs l u v x vo r ys wr) (k : Only [] wr W) : LvI w vs l u v x vo r ys W :=
  ⟨owns_only h.some k, owns_only h.out k, h.bel.trans (k.toBelow.mono h.bel.size)⟩
theorem LvI.next {w : World} {vs vo v' : Value} {l : List Nat} {u v x : Nat → Int} {r : Nat} {ys : List Value} {wr W' : World} {tmp : Obj} {j : Nat} (h : LvI w vs l u v x vo r ys wr)
    (hown : W'.ownsRow w.heap.size 70 3 v' (l.length + 1) (edgesOf u v x l ++ [.int .i64 (u j), .int .i64 (v j), .int .i64 (x j)])) (hg : (wr.alloc tmp).grownBy W' vs.ownBlock) : LvI w v' (l ++ [j]) u v x vo r ys W' :=
  ⟨by rw [List.length_append, edgesOf_append]; exact hown, owns_apart h.some hg h.out (by decide), below_append h.bel h.some hg⟩
/-- The least weight above, among the first i. -/
def NextI (x : Nat → Int) (r : Nat) (th : Nat → Int) (i : Nat) (y : Int) : Prop :=
  (y = -1 ∧ ∀ j, j < i → ¬ (r = 0 ∨ th (r - 1) < x j)) ∨ (∃ nx : Nat, y = nx ∧ nx < i ∧ (r = 0 ∨ th (r - 1) < x nx) ∧ ∀ j, j < i → (r = 0 ∨ th (r - 1) < x j) → x nx ≤ x j)
theorem NextI.skip {x : Nat → Int} {r : Nat} {th : Nat → Int} {i : Nat} {y : Int} (h : NextI x r th i y) (hn : ¬ (r = 0 ∨ th (r - 1) < x i)) : NextI x r th (i + 1) y := by
  rcases h with ⟨h1, h2⟩ | ⟨nx, h1, h2, h3, h4⟩
  · exact .inl ⟨h1, fun j hj => by
      rcases Nat.lt_or_eq_of_le (Nat.le_of_lt_succ hj) with hl | rfl
      · exact h2 j hl
      · exact hn⟩
  · exact .inr ⟨nx, h1, by omega, h3, fun j hj hb => by
      rcases Nat.lt_or_eq_of_le (Nat.le_of_lt_succ hj) with hl | rfl
      · exact h4 j hl hb
      · exact absurd hb hn⟩
theorem NextI.first {x : Nat → Int} {r : Nat} {th : Nat → Int} {i : Nat} (h : NextI x r th i (-1)) (hn : r = 0 ∨ th (r - 1) < x i) : NextI x r th (i + 1) i := by
  rcases h with ⟨_, h2⟩ | ⟨nx, h1, _⟩
  · exact .inr ⟨i, rfl, by omega, hn, fun j hj hb => by
      rcases Nat.lt_or_eq_of_le (Nat.le_of_lt_succ hj) with hl | rfl
      · exact absurd hb (h2 j hl)
      · exact Int.le_refl _⟩
  · omega
theorem NextI.less {x : Nat → Int} {r : Nat} {th : Nat → Int} {i nx : Nat} (h : NextI x r th i nx) (hn : r = 0 ∨ th (r - 1) < x i) (hl : x i < x nx) : NextI x r th (i + 1) i := by
  rcases h with ⟨h1, _⟩ | ⟨nx', h1, h2, h3, h4⟩
  · omega
  · obtain rfl : nx = nx' := Int.ofNat.inj h1
    exact .inr ⟨i, rfl, by omega, hn, fun j hj hb => by
      rcases Nat.lt_or_eq_of_le (Nat.le_of_lt_succ hj) with hl | rfl
      · have := h4 j hl hb; omega
      · exact Int.le_refl _⟩
theorem NextI.more {x : Nat → Int} {r : Nat} {th : Nat → Int} {i nx : Nat} (h : NextI x r th i nx) (hl : ¬ x i < x nx) : NextI x r th (i + 1) nx := by
  rcases h with ⟨h1, _⟩ | ⟨nx', h1, h2, h3, h4⟩
  · omega
  · obtain rfl : nx = nx' := Int.ofNat.inj h1
    exact .inr ⟨nx, rfl, by omega, h3, fun j hj hb => by
      rcases Nat.lt_or_eq_of_le (Nat.le_of_lt_succ hj) with hl | rfl
      · exact h4 j hl hb
      · omega⟩
theorem levT_last (n : Nat) (p q : Nat → Nat) (m : Nat) (x th : Nat → Int) (r : Nat) : (levT n p q m x th (r + 1))[r * 4]? = some (.int .i64 (th r)) := by
  have e : levT n p q m x th (r + 1) = levT n p q m x th r ++ [.int .i64 (th r), .int .i64 (levA n p q m x (th r)), .int .i64 (levB n p q m x (th r)), .int .i64 (levC n p q m x (th r))] := by
    unfold levT
    rw [List.range_succ, levV_append]
    rfl
  rw [e, List.getElem?_append_right (by rw [levT_len]; exact Nat.le_refl _), levT_len, Nat.sub_self]
  rfl
/-- Where the last threshold lies. -/
def LastIn (W : World) (vo : Value) (r : Nat) (th : Nat → Int) : Prop := (r = 0 ∧ vo = .slice none 0 0) ∨ (∃ r' g c, r = r' + 1 ∧ vo = .slice (some ⟨g, 0, none⟩) (r' + 1) c ∧ W.cell? ⟨g, r' * 4, none⟩ = some (.int .i64 (th r')))
theorem lastIn_of {W : World} {base : Nat} {vo : Value} {r n m : Nat} {p q : Nat → Nat} {x th : Nat → Int} (h : W.ownsRow base 93 4 vo (r + 1) (levT n p q m x th (r + 1))) : LastIn W vo (r + 1) th := by
  obtain ⟨g, c, rfl⟩ := ownsRow_succ h
  refine .inr ⟨r, g, c, rfl, rfl, ?_⟩
  have := h.cells (g := g) rfl (r * 4) _ (levT_last n p q m x th r)
  rwa [Addr.add_lit, Nat.zero_add] at this
theorem GoodE.nat {N : Nat} {u v : Nat → Int} {j : Nat} (h : GoodE N u v j) : u j = nat u j ∧ v j = nat v j ∧ nat u j < N ∧ nat v j < N := by
  unfold GoodE InE at h
  unfold Go.Proofs.Ytbafacdknaopjaa.nat
  omega

theorem plain_one {W : World} {base : Nat} {vo : Value} {a b c : Int} (h : W.ownsRow base 91 3 vo 1 (edgesL (fun _ => a) (fun _ => b) (fun _ => c) 1)) : ∃ g cap, vo = .slice (some ⟨g, 0, none⟩) 1 cap ∧ W.cell? ⟨g, 0, none⟩ = some (.int .i64 a) ∧ W.cell? ⟨g, 1, none⟩ = some (.int .i64 b) ∧ W.cell? ⟨g, 2, none⟩ = some (.int .i64 c) := by
  obtain ⟨g, cap, rfl⟩ := ownsRow_succ h
  have e : ∀ i v, (edgesL (fun _ => a) (fun _ => b) (fun _ => c) 1)[i]? = some v → W.cell? ⟨g, i, none⟩ = some v := fun i v hv => by
    have := h.cells (g := g) rfl i v hv
    rwa [Addr.add_lit, Nat.zero_add] at this
  exact ⟨g, cap, rfl, e 0 _ rfl, e 1 _ rfl, e 2 _ rfl⟩
theorem cell_grown {W w5 : World} {tmp : Obj} {base e size n : Nat} {v : Value} {xs : List Value} {b i : Nat} {y : Value} (hg : (W.alloc tmp).grownBy w5 v.ownBlock) (hown : W.ownsRow base e size v n xs) (hb : b < base) (h : W.cell? ⟨b, i, none⟩ = some y) : w5.cell? ⟨b, i, none⟩ = some y := by
  have hl := cell_lt' h
  refine (World.cell?_of_block (w := W) (w' := w5) (a := ⟨b, i, none⟩) ?_).trans h
  rw [hg.block b (by rw [World.size_alloc]; exact Nat.lt_succ_of_lt hl) (fun e' => by have := (hown.lt b e'.symm).1; omega), heap_alloc_old _ _ hl]
theorem one_row (W : World) (a b c : Int) (h : (Lit.int .i64 a).wf = true ∧ (Lit.int .i64 b).wf = true ∧ (Lit.int .i64 c).wf = true) : EdgesIn (W.alloc (.cells #[.int .i64 a, .int .i64 b, .int .i64 c] 164)) (some ⟨W.heap.size, 0, none⟩) 1 (fun _ => a) (fun _ => b) (fun _ => c) := by
  have hh := heap_alloc_new W (.cells #[.int .i64 a, .int .i64 b, .int .i64 c] 164)
  refine ⟨fun _ => ⟨_, 0, rfl, heap_lt hh, fun j hj => ?_⟩, fun _ _ => h, by unfold maxLen; omega⟩
  obtain rfl : j = 0 := by omega
  exact ⟨cell_of_heap hh rfl, cell_of_heap hh rfl, cell_of_heap hh rfl⟩
set_option maxRecDepth 100000 in
set_option maxHeartbeats 8000000 in
theorem RLevels_any (n : Int) (E : Option Addr) (me ce : Nat) (u v x : Nat → Int) (w : World) (hE : EdgesIn w E me u v x) (k : Int) (hk : GCode n me u v k) :
    Calls Try.prog 56 #[.int .i64 n, .slice E me ce] w (RLevelsPost n me u v x w k) := by
  obtain ⟨i0, hi, hz0, hz1, hz2⟩ := info_parts infoLevel
  obtain ⟨i1, gi, gz0, gz1, gz2⟩ := info_parts infoEdge
  have CG := Lib.hid (RefGraph_any n E me ce u v x w hE k hk)
  have HE := Lib.hid hE
  have HK := Lib.hid hk
  clear hE hk
  go_enter Try.func56, Try.ntmps56
  go_wp2_with fail
  refine CG.out.mono ?_
  rintro e w1 ⟨rfl, hO⟩
  have HO := Lib.hid hO
  clear hO CG
  by_cases h0 : k = 0
  · subst h0
    obtain ⟨⟨hn0, hn1, hme⟩, hgood⟩ := gcode_ok HK.out
    obtain ⟨N, rfl⟩ : ∃ N : Nat, n = N := ⟨n.toNat, by omega⟩
    have HGd := Lib.hid (fun j hj => (hgood j hj).nat)
    clear hgood
    go_wp2_with fail
    go_loopg [7] (me + 1) (fun g vo wr => ∃ (r : Nat) (th : Nat → Int), Hid (g = me + 1 - r) ∧ Hid (Low me x r th) ∧ Hid (wr.ownsRow w.heap.size 93 4 vo r (levT N (nat u) (nat v) me x th r)) ∧ Hid (LastIn wr vo r th) ∧ Hid (Below w.heap.size w wr))
    case atStart => exact ⟨0, fun _ => 0, Lib.hid rfl, Lib.hid (Low.nil _ _ _), Lib.hid (World.ownsRow_nil _ _ _ _), Lib.hid (.inl ⟨rfl, rfl⟩), Lib.hid HO.out.toBelow⟩
    case round =>
      clear HO
      obtain ⟨r, th, HGg, HLow, HRow, HLast, HB⟩ := hrel
      have hrm := HLow.out.len
      go_wp2_with fail
      go_loopw [8, 9] (fun y i wj => ∃ (j nn : Nat) (yy : Int), j ≤ me ∧ i = .int .i64 j ∧ y = .int .i64 yy ∧ wj = wr.drewN nn ∧ Hid (NextI x r th j yy)) (fun _ i _ => me - (intOf i).toNat)
      case atStart => exact ⟨0, 0, -1, Nat.zero_le _, rfl, rfl, rfl, Lib.hid (.inl ⟨rfl, fun j hj => by omega⟩)⟩
      case round =>
        obtain ⟨j, nn, yy, hj, rfl, rfl, rfl, HN⟩ := hrel
        by_cases hlt : j < me
        ·
          as_aux_lemma =>
            obtain ⟨bE, oE, rfl, hbE, _, _, e2⟩ := (HE.out.only (only_of_below' HB.out)).cell hlt
            obtain ⟨xj, hxj⟩ : ∃ xj, x j = xj := ⟨_, rfl⟩
            have HXj := Lib.hid hxj
            rw [hxj] at e2
            clear hxj
            have HCe := Lib.hid (show ∀ i, i < me → wr.cell? ⟨bE, oE + i * 3 + 2, none⟩ = some (.int .i64 (x i)) from fun i hi => by
              obtain ⟨b', o', e, _, _, _, c⟩ := (HE.out.only (only_of_below' HB.out)).cell hi
              cases e
              exact c)
            have hlast := HLast.out
            -- what lies above
            have hb : (r = 0 ∨ th (r - 1) < xj) ∨ ∃ r', r = r' + 1 ∧ xj ≤ th r' := by
              by_cases h : r = 0 ∨ th (r - 1) < xj
              · exact .inl h
              · exact .inr ⟨r - 1, by omega, by omega⟩
            rcases hb with hb | ⟨r', rfl, hb⟩
            · have HAb := Lib.hid (show r = 0 ∨ th (r - 1) < x j by rw [HXj.out]; exact hb)
              have hnx : yy = -1 ∨ ∃ nx : Nat, yy = nx ∧ nx < me := by
                rcases HN.out with ⟨h1, _⟩ | ⟨nx, h1, h2, _⟩
                · exact .inl h1
                · exact .inr ⟨nx, h1, by omega⟩
              rcases hlast with ⟨rfl, rfl⟩ | ⟨r', gl, cl, rfl, rfl, cth⟩
              · clear hb
                rcases hnx with rfl | ⟨nx, rfl, hnm⟩
                · have HN1 := Lib.hid (HN.out.first HAb.out)
                  go_wp2_with fail
                  go_quiet (fail)
                  skip
                  go_wp2_with fail
                  go_quiet (fail)
                  go_wp2_with fail
                  exact ⟨⟨j + 1, _, _, by omega, by go_num, rfl, rfl, HN1⟩, by simp [intOf]; omega⟩
                · have cn := HCe.out nx hnm
                  obtain ⟨xn, hxn⟩ : ∃ xn, x nx = xn := ⟨_, rfl⟩
                  rw [hxn] at cn
                  have q0 : decide ((nx : Int) < 0) = false := decide_eq_false (by omega)
                  by_cases hl : xj < xn
                  · have HN1 := Lib.hid (HN.out.less HAb.out (by rw [HXj.out, hxn]; exact hl))
                    have q1 : decide (xj < xn) = true := decide_eq_true hl
                    clear hxn hl
                    go_wp2_with fail
                    go_quiet (fail)
                    skip
                    go_wp2_with fail
                    go_quiet (fail)
                    go_wp2_with fail
                    exact ⟨⟨j + 1, _, _, by omega, by go_num, rfl, rfl, HN1⟩, by simp [intOf]; omega⟩
                  · have HN1 := Lib.hid (HN.out.more (by rw [HXj.out, hxn]; exact hl))
                    have q1 : decide (xj < xn) = false := decide_eq_false hl
                    clear hxn hl
                    go_wp2_with fail
                    go_quiet (fail)
                    skip
                    go_wp2_with fail
                    go_quiet (fail)
                    go_wp2_with fail
                    exact ⟨⟨j + 1, _, _, by omega, by go_num, rfl, rfl, HN1⟩, by simp [intOf]; omega⟩
              · have hb2 : th r' < xj := by
                  rcases hb with h | h
                  · omega
                  · rwa [Nat.add_sub_cancel] at h
                obtain ⟨tr, htr⟩ : ∃ tr, th r' = tr := ⟨_, rfl⟩
                rw [htr] at cth hb2
                have p1 : decide (xj ≤ tr) = false := decide_eq_false (by omega)
                have p2 : (r' : Int) + 1 - 1 = (r' : Int) := by omega
                have p3 : r' < r' + 1 := by omega
                have p4 : r' ≤ 16384 := by omega
                clear hb hb2 htr
                rcases hnx with rfl | ⟨nx, rfl, hnm⟩
                · have HN1 := Lib.hid (HN.out.first HAb.out)
                  go_wp2_with fail
                  go_quiet (fail)
                  clear p1 p2 p3 cth
                  go_wp2_with fail
                  go_quiet (fail)
                  go_wp2_with fail
                  exact ⟨⟨j + 1, _, _, by omega, by go_num, rfl, rfl, HN1⟩, by simp [intOf]; omega⟩
                · have cn := HCe.out nx hnm
                  obtain ⟨xn, hxn⟩ : ∃ xn, x nx = xn := ⟨_, rfl⟩
                  rw [hxn] at cn
                  have q0 : decide ((nx : Int) < 0) = false := decide_eq_false (by omega)
                  by_cases hl : xj < xn
                  · have HN1 := Lib.hid (HN.out.less HAb.out (by rw [HXj.out, hxn]; exact hl))
                    have q1 : decide (xj < xn) = true := decide_eq_true hl
                    clear hxn hl
                    go_wp2_with fail
                    go_quiet (fail)
                    clear p1 p2 p3 cth
                    go_wp2_with fail
                    go_quiet (fail)
                    go_wp2_with fail
                    exact ⟨⟨j + 1, _, _, by omega, by go_num, rfl, rfl, HN1⟩, by simp [intOf]; omega⟩
                  · have HN1 := Lib.hid (HN.out.more (by rw [HXj.out, hxn]; exact hl))
                    have q1 : decide (xj < xn) = false := decide_eq_false hl
                    clear hxn hl
                    go_wp2_with fail
                    go_quiet (fail)
                    clear p1 p2 p3 cth
                    go_wp2_with fail
                    go_quiet (fail)
                    go_wp2_with fail
                    exact ⟨⟨j + 1, _, _, by omega, by go_num, rfl, rfl, HN1⟩, by simp [intOf]; omega⟩
            · have HN1 := Lib.hid (HN.out.skip (by rw [HXj.out, Nat.add_sub_cancel]; omega))
              obtain ⟨gl, cl, rfl, cth⟩ : ∃ gl cl, u7 = .slice (some ⟨gl, 0, none⟩) (r' + 1) cl ∧ wr.cell? ⟨gl, r' * 4, none⟩ = some (.int .i64 (th r')) := by
                rcases hlast with ⟨h, _⟩ | ⟨r2, gl, cl, h, e, c⟩
                · omega
                · obtain rfl : r' = r2 := by omega
                  exact ⟨gl, cl, e, c⟩
              obtain ⟨tr, htr⟩ : ∃ tr, th r' = tr := ⟨_, rfl⟩
              rw [htr] at cth hb
              have p1 : decide (xj ≤ tr) = true := decide_eq_true hb
              have p2 : (r' : Int) + 1 - 1 = (r' : Int) := by omega
              have p3 : r' < r' + 1 := by omega
              have p4 : r' ≤ 16384 := by omega
              clear hb htr hlast
              go_wp2_with fail
              go_quiet (fail)
              go_wp2_with fail
              exact ⟨⟨j + 1, _, _, by omega, by go_num, rfl, rfl, HN1⟩, by simp [intOf]; omega⟩
        · obtain rfl : j = me := by omega
          rcases HN.out with ⟨rfl, hno⟩ | ⟨nx, rfl, hnm, hn1, hn2⟩
          · have HP := Lib.hid (show RLevelsPost N j u v x w 0 (.returned (.tuple #[u7, .int .i64 0])) (wr.drewN nn) from
              .inr ⟨rfl, r, th, u7, HLow.out.done hno, rfl, by rw [Int.toNat_natCast]; exact owns_only HRow.out ((Only.refl [] wr).drewN nn), only_of_below' (HB.out.trans (((Only.refl [] wr).drewN nn).toBelow.mono HB.out.size))⟩)
            clear hno hn1
            go_wp2_with fail
            go_ret2
            exact HP.out
          · have HLow2 := Lib.hid (HLow.out.next hnm hn1 hn2)
            obtain ⟨tn, htn⟩ : ∃ tn, x nx = tn := ⟨_, rfl⟩
            rw [htn] at HLow2
            have HTn := Lib.hid htn
            have H0 := Lib.hid (show LvI w (.slice none 0 0) (leL 0 x tn) u v x u7 r (levT N (nat u) (nat v) j x th r) (wr.drewN nn) from
              ⟨World.ownsRow_nil _ _ _ _, owns_only HRow.out ((Only.refl [] wr).drewN nn), HB.out.trans (((Only.refl [] wr).drewN nn).toBelow.mono HB.out.size)⟩)
            have qn : ¬ (nx : Int) < 0 := by omega
            clear HRow HLast HN HLow hn1 hn2 htn HB hlt
            go_wp2_with fail
            go_loopw [10, 11] (fun vs i wl => ∃ q : Nat, q ≤ j ∧ i = .int .i64 q ∧ Hid (LvI w vs (leL q x tn) u v x u7 r (levT N (nat u) (nat v) j x th r) wl)) (fun _ i _ => j - (intOf i).toNat)
            case atStart => exact ⟨0, Nat.zero_le _, rfl, H0⟩
            case round =>
              clear H0
              obtain ⟨q, hq, rfl, HI⟩ := hrel
              by_cases hlt : q < j
              · obtain ⟨bE, oE, rfl, hbE, e0, e1, e2⟩ := (HE.out.only (only_of_below' HI.out.bel)).cell hlt
                obtain ⟨bE', oE', hEq, _, _, _, n2⟩ := (HE.out.only (only_of_below' HI.out.bel)).cell hnm
                cases hEq
                rw [HTn.out] at n2
                obtain ⟨ya, hya⟩ : ∃ ya, u q = ya := ⟨_, rfl⟩
                obtain ⟨yb, hyb⟩ : ∃ yb, v q = yb := ⟨_, rfl⟩
                obtain ⟨yc, hyc⟩ : ∃ yc, x q = yc := ⟨_, rfl⟩
                rw [hya] at e0
                rw [hyb] at e1
                rw [hyc] at e2
                have HQ := Lib.hid (And.intro hya (And.intro hyb hyc))
                clear hya hyb hyc
                by_cases hle : yc ≤ tn
                · have HL := Lib.hid (show leL (q + 1) x tn = leL q x tn ++ [q] by rw [leL_succ, HQ.out.2.2, if_pos hle])
                  have q1 : decide (yc ≤ tn) = true := decide_eq_true hle
                  have hlen := leL_len q x tn
                  obtain ⟨lq, hlq⟩ : ∃ lq, (leL q x tn).length = lq := ⟨_, rfl⟩
                  rw [hlq] at hlen
                  have HLq := Lib.hid hlq
                  clear hle hlq
                  go_wp2_with fail
                  go_quiet (fail)
                  clear q1
                  obtain ⟨W1, hW1⟩ : ∃ W1, wr.drewN nq = W1 := ⟨_, rfl⟩
                  have HI2 := Lib.hid (show LvI w u10 (leL q x tn) u v x u7 r (levT N (nat u) (nat v) j x th r) W1 from hW1 ▸ HI.out.only ((Only.refl [] wr).drewN nq))
                  have k0 : W1.cell? ⟨bE, oE + q * 3, none⟩ = some (.int .i64 ya) := by rw [← hW1]; exact e0
                  have k1 : W1.cell? ⟨bE, oE + q * 3 + 1, none⟩ = some (.int .i64 yb) := by rw [← hW1]; exact e1
                  have k2 : W1.cell? ⟨bE, oE + q * 3 + 2, none⟩ = some (.int .i64 yc) := by rw [← hW1]; exact e2
                  have hrow := HI2.out.some
                  rw [HLq.out] at hrow
                  have hsz := HI2.out.bel.size
                  rw [hW1]
                  clear hW1 e0 e1 e2 n2 HI
                  go_wp2_with (at_builtin; refine wpList_append_own _ rfl _ _ 67 rfl w.heap.size 70 i1 (.agg #[.int .i64 0, .int .i64 0, .int .i64 0]) 3 24 Try.underlying67 gi gz0 gz1 gz2 rfl (by decide) _ _ _ rfl (hrow.alloc _) ⟨W1.heap.size, 0, none⟩ 1 1 [.int .i64 ya, .int .i64 yb, .int .i64 yc] rfl rfl (cell_three_new _ _ _ _ _) (by simp [Value.oneCell']) (by unfold maxLen; omega) (by omega) (by simp; omega) ?_; intro v' w1 hown' hgrow _; have HN := Lib.hid (HI2.out.next (j := q) (by rw [HLq.out, HQ.out.1, HQ.out.2.1, HQ.out.2.2]; exact hown') hgrow); clear hown' hgrow hrow)
                  exact ⟨⟨q + 1, by omega, by go_num, Lib.hid (by rw [HL.out]; exact HN.out)⟩, by simp [intOf]; omega⟩
                · have HI2 := Lib.hid (show LvI w u10 (leL (q + 1) x tn) u v x u7 r (levT N (nat u) (nat v) j x th r) wr by rw [leL_succ, HQ.out.2.2, if_neg hle, List.append_nil]; exact HI.out)
                  have q1 : decide (yc ≤ tn) = false := decide_eq_false hle
                  clear hle
                  go_wp2_with fail
                  go_quiet (fail)
                  go_wp2_with fail
                  exact ⟨⟨q + 1, by omega, by go_num, Lib.hid (HI2.out.only ((Only.refl [] wr).drewN nq))⟩, by simp [intOf]; omega⟩
              · obtain rfl : q = j := by omega
                have hlen := leL_len q x tn
                have hso := HI.out.some
                rw [← edgesL_sel] at hso
                obtain ⟨As, cs, rfl, hEs⟩ := edges_own hso (fun i hi => HE.out.wf _ (leL_mem (sel_at hi)))
                have HCn := Lib.hid (show ∀ W, Only [] wr W → ∃ bE oE, E = some ⟨bE, oE, none⟩ ∧ W.cell? ⟨bE, oE + nx * 3 + 2, none⟩ = some (.int .i64 tn) from fun W hW => by
                  obtain ⟨b', o', e, _, _, _, c⟩ := (HE.out.only ((only_of_below' HI.out.bel).trans hW)).cell hnm
                  rw [HTn.out] at c
                  exact ⟨b', o', e, c⟩)
                obtain ⟨bE, oE, rfl, n2⟩ := HCn.out wr (Only.refl _ _)
                have hbE : bE < w.heap.size := by
                  obtain ⟨b', o', e, hb, _⟩ := HE.out.cell hnm
                  cases e
                  exact hb
                have HCn := Lib.hid (show ∀ W, Only [] wr W → W.cell? ⟨bE, oE + nx * 3 + 2, none⟩ = some (.int .i64 tn) from fun W hW => by
                  obtain ⟨b', o', e, c⟩ := HCn.out W hW
                  cases e
                  exact c)
                have CE := Lib.hid (fun W => RefEven_any N (by omega) W)
                have CRow := Lib.hid (show ∀ (W : World) (A : Option Addr) (c : Nat), Only [] wr W → IntsIn W .i64 A N (fun _ => 1) → Calls Try.prog 111 #[.slice A N c, .slice As (leL q x tn).length cs] W fun e w' => e = .returned (.agg #[.int .i64 (levA N (nat u) (nat v) q x tn), .int .i64 (levB N (nat u) (nat v) q x tn), .int .i64 (levC N (nat u) (nat v) q x tn)]) ∧ Only [] W w' from fun W A c hO hA => by
                  have h := RefRow_any A As N c (leL q x tn).length cs (fun _ => 1) _ _ _ (fun i => nat u (sel (leL q x tn) i)) (fun i => nat v (sel (leL q x tn) i)) one W hA (hEs.only hO) (fun _ _ => rfl) (fun i hi => HGd.out _ (leL_mem (sel_at hi))) (by rw [total_one]; omega) (by omega)
                  rw [labK_sel] at h
                  exact h)
                obtain ⟨la, hla⟩ : ∃ la, levA N (nat u) (nat v) q x tn = la := ⟨_, rfl⟩
                obtain ⟨lb, hlb⟩ : ∃ lb, levB N (nat u) (nat v) q x tn = lb := ⟨_, rfl⟩
                obtain ⟨lc, hlc⟩ : ∃ lc, levC N (nat u) (nat v) q x tn = lc := ⟨_, rfl⟩
                have hwf : (Lit.int .i64 la).wf = true ∧ (Lit.int .i64 lb).wf = true ∧ (Lit.int .i64 lc).wf = true := by
                  rw [← hla, ← hlb, ← hlc]
                  unfold levA levB levC
                  rw [← labK_sel]
                  exact row_wf (p := fun i => nat u (sel (leL q x tn) i)) (q := fun i => nat v (sel (leL q x tn) i)) (o := id) (fun i hi => ⟨(HGd.out _ (leL_mem (sel_at hi))).2.2.1, (HGd.out _ (leL_mem (sel_at hi))).2.2.2⟩) (by rw [total_one]; omega) (by omega)
                rw [hla, hlb, hlc] at CRow
                have HLv := Lib.hid (show levT N (nat u) (nat v) q x (upd th r tn) (r + 1) = levT N (nat u) (nat v) q x th r ++ [.int .i64 tn, .int .i64 la, .int .i64 lb, .int .i64 lc] by rw [levT_succ, hla, hlb, hlc])
                have CPl := Lib.hid (fun (W : World) => RefPlain_any (some ⟨W.heap.size, 0, none⟩) 1 1 (fun _ => la) (fun _ => lb) (fun _ => lc) (W.alloc (.cells #[.int .i64 la, .int .i64 lb, .int .i64 lc] 164)) (one_row W la lb lc hwf) (by omega))
                have HOut := Lib.hid (fun (W : World) (hO : Only [] wr W) => And.intro (owns_only HI.out.out hO) (HI.out.bel.trans (hO.toBelow.mono HI.out.bel.size)))
                obtain ⟨lT, hlT⟩ : ∃ lT, levT N (nat u) (nat v) q x th r = lT := ⟨_, rfl⟩
                rw [hlT] at HOut HLv
                obtain ⟨ks, hks⟩ : ∃ ks, (leL q x tn).length = ks := ⟨_, rfl⟩
                rw [hks] at CRow ⊢
                have hrq : r + 1 ≤ q := HLow2.out.len
                clear hla hlb hlc hlT hks hso hEs hwf hlen HI hlt
                go_wp2_with fail
                go_region_law
                  (first
                    | (refine step_append_lies _ (by rfl) _ _ 87 (by rfl) w.heap.size 93 i0 (.agg #[.int .i64 0, .int .i64 0, .int .i64 0, .int .i64 0]) 4 32 Try.underlying87 hi hz0 hz1 hz2 rfl (by decide) u7 r lT (by rfl) (hown.alloc _) ⟨wC.heap.size, 0, none⟩ 1 1 [.int .i64 tn, .int .i64 la, .int .i64 lb, .int .i64 lc] (by rfl) (by rfl) (cell_four_new _ _ _ _ _ _) (by simp [Value.oneCell']) (by omega) (by unfold maxLen; omega) (by omega) (by simp; omega) _ rfl ?_; intro g5 cap5 w5 hown5 hgrow5 _ _; have HN5 := Lib.hid (And.intro hown5 (below_append (HOut.out wC HOC.out).2 hown hgrow5)); have hS4 := cell_grown hgrow5 hown hbE hS3; clear hown5 hgrow5)
                    | (go_simp; go_at_call 108; refine (CE.out _).mono ?_; rintro e wA ⟨A1, cA, rfl, hI1, hOA⟩; have HOA := Lib.hid (((Only.refl [] wr).drewN 1).trans hOA); have HI1 := Lib.hid hI1; have hS1 := HCn.out wA HOA.out; clear hI1 hOA)
                    | (go_simp; go_at_call 111; refine (CRow.out wA A1 cA HOA.out HI1.out).mono ?_; rintro e wB ⟨rfl, hOB⟩; have HOB := Lib.hid (HOA.out.trans hOB); have hS2 := HCn.out wB HOB.out; have hS2b := HCn.out (wB.alloc (.cells #[.int .i64 la, .int .i64 lb, .int .i64 lc] 164)) (HOB.out.alloc _); clear hOB)
                    | (go_simp; go_at_call 106; refine (CPl.out wB).mono ?_; rintro e wC ⟨vo, rfl, hrC, hOC⟩; obtain ⟨gC, cC, rfl, p0, p1, p2⟩ := plain_one hrC; have HOC := Lib.hid ((HOB.out.alloc _).trans hOC); have hS3 := HCn.out wC HOC.out; have hown := (HOut.out wC HOC.out).1; have hszC := (HOut.out wC HOC.out).2.size; clear hrC hOC))
                all_goals
                  have HN6 := Lib.hid (show w5.ownsRow w.heap.size 93 4 (.slice (some ⟨g5, 0, none⟩) (r + 1) cap5) (r + 1) (levT N (nat u) (nat v) q x (upd th r tn) (r + 1)) by rw [HLv.out]; exact HN5.out.1)
                  have HB6 := Lib.hid HN5.out.2
                  have HL6 := Lib.hid (lastIn_of HN6.out)
                  clear p0 p1 p2 hS1 hS2 hS2b hS3 hS4 hown n2
                  go_wp2_with fail
                  go_roundg (q + 1 - (r + 1))
                  case measure =>
                    have := HGg.out
                    omega
                  case rel => exact ⟨r + 1, upd th r tn, Lib.hid rfl, HLow2, HN6, HL6, HB6⟩
  · have q : (k != 0) = true := by simp [h0]
    go_wp2_with fail
    go_ret2
    exact .inl ⟨h0, rfl, HO.out⟩

end Go.Proofs.Ytbafacdknaopjaa
