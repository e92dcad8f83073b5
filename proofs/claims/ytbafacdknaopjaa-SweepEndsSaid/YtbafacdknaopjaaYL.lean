import Derived.Test.YtbafacdknaopjaaYJ
import Derived.Test.YtbafacdknaopjaaYF
import Derived.Test.YtbafacdknaopjaaYK
/-
  The reference of chapter 27: the error of a graph, orders, weights of 1.
-/
namespace Go.Proofs.Ytbafacdknaopjaa
open Go.RowKit
set_option linter.unusedSimpArgs false
set_option linter.unusedSectionVars false

theorem EdgesIn.drawn {w : World} {A : Option Addr} {n k : Nat} {u v x : Nat → Int} (h : EdgesIn w A n u v x) : EdgesIn (w.drewN k) A n u v x := h.only ((Only.refl [] w).drewN k)
theorem IntsIn.drawn {w : World} {k : IntKind} {A : Option Addr} {n m : Nat} {f : Nat → Int} (h : IntsIn w k A n f) : IntsIn (w.drewN m) k A n f := h.only ((Only.refl [] w).drewN m)

set_option maxRecDepth 100000 in
set_option maxHeartbeats 4000000 in
theorem RefGraph_any (n : Int) (A : Option Addr) (m c : Nat) (u v x : Nat → Int) (w : World) (h : EdgesIn w A m u v x) (k : Int) (hk : GCode n m u v k) : Calls Try.prog 104 #[.int .i64 n, .slice A m c] w fun e w' => e = .returned (.int .i64 k) ∧ Only [] w w' := by
  have hl := h.len
  unfold maxLen at hl
  by_cases h0 : n < 0 ∨ (¬ n < 0 ∧ (4096 < n ∨ (¬ 4096 < n ∧ 16384 < m)))
  · obtain rfl : k = 2 := by
      rcases hk with ⟨_, h⟩ | ⟨h1, h2⟩
      · exact h
      · clear h2; omega
    clear hk h
    rcases h0 with h0 | ⟨h1, h0 | ⟨h2, h0⟩⟩
    all_goals
      go_enter Try.func104, Try.ntmps104
      go_wp2_with fail
      go_ret
      exact ⟨rfl, Only.refl _ _⟩
  · obtain ⟨N, rfl⟩ : ∃ N : Nat, n = N := ⟨n.toNat, by omega⟩
    have b1 : ¬ 4096 < N := by omega
    have b2 : ¬ 16384 < m := by omega
    have HE := Lib.hid h
    have HK := Lib.hid hk
    clear h hk h0
    go_enter Try.func104, Try.ntmps104
    go_wp2_with fail
    go_loopw [5] (fun i wr => ∃ j nn : Nat, j ≤ m ∧ i = .int .i64 j ∧ wr = w.drewN nn ∧ Hid (∀ t, t < j → GoodE N u v t)) (fun i _ => m - (intOf i).toNat)
    case atStart => exact ⟨0, 0, Nat.zero_le _, rfl, rfl, Lib.hid fun t ht => by omega⟩
    case round =>
      obtain ⟨j, nn, hj, rfl, rfl, HG⟩ := hrel
      by_cases hlt : j < m
      · obtain ⟨b, off, rfl, hb, e0, e1, e2⟩ := HE.out.cell hlt
        have HA := Lib.hid (fun hb => gcode_at HK.out ⟨by omega, by omega, by omega⟩ hlt HG.out hb)
        obtain ⟨a, ha⟩ : ∃ a, u j = a := ⟨_, rfl⟩
        obtain ⟨d, hd⟩ : ∃ d, v j = d := ⟨_, rfl⟩
        have HI : Hid (GoodE N u v j ↔ (((0 ≤ a ∧ a < N) ∧ 0 ≤ d ∧ d < N) ∧ a ≠ d)) := Lib.hid (by unfold GoodE InE; rw [ha, hd])
        have HI2 : Hid (InE N u v j ↔ ((0 ≤ a ∧ a < N) ∧ 0 ≤ d ∧ d < N)) := Lib.hid (by unfold InE; rw [ha, hd])
        rw [ha] at e0
        rw [hd] at e1
        clear ha hd e2
        by_cases hin : (0 ≤ a ∧ a < N) ∧ 0 ≤ d ∧ d < N
        · obtain ⟨⟨q1, q2⟩, q3, q4⟩ := hin
          by_cases hne : a = d
          · obtain rfl : k = 9 := (HA.out (fun h => (HI.out.1 h).2 hne)).2 (HI2.out.2 ⟨⟨q1, q2⟩, q3, q4⟩)
            subst hne
            go_wp2_with fail
            go_quiet (fail)
            go_wp2_with fail
            go_ret
            exact ⟨rfl, ((Only.refl [] w).drewN _).drewN _⟩
          · have HN := Lib.hid (show ∀ t, t < j + 1 → GoodE N u v t from fun t ht => by
              by_cases e : t = j
              · rw [e]; exact HI.out.2 ⟨⟨⟨q1, q2⟩, q3, q4⟩, hne⟩
              · exact HG.out t (by omega))
            have qe : (a == d) = false := by simp; omega
            go_wp2_with fail
            go_quiet (fail)
            go_wp2_with fail
            go_roundw
            case rel => exact ⟨j + 1, nn + nq, by omega, by go_num, rfl, HN⟩
            case measure => simp [intOf]; omega
        · obtain rfl : k = 3 := (HA.out (fun h => hin (HI.out.1 h).1)).1 fun h => hin (HI2.out.1 h)
          have hc : a < 0 ∨ (¬ a < 0 ∧ ((N : Int) ≤ a ∨ (¬ (N : Int) ≤ a ∧ (d < 0 ∨ (¬ d < 0 ∧ (N : Int) ≤ d))))) := by omega
          clear hin
          rcases hc with h1 | ⟨h1, h2 | ⟨h2, h3 | ⟨h3, h4⟩⟩⟩
          all_goals
            go_wp2_with fail
            go_ret
            exact ⟨rfl, (Only.refl [] w).drewN _⟩
      · obtain rfl : j = m := by omega
        obtain rfl : k = 0 := by
          rcases HK.out with ⟨h1, _⟩ | ⟨_, ⟨i, hi, _, ⟨h1, _⟩ | ⟨_, h1, _⟩⟩ | ⟨_, h1⟩⟩
          · omega
          · exact absurd (HG.out i hi).1 h1
          · exact absurd h1 (HG.out i hi).2
          · exact h1
        go_wp2_with fail
        go_ret
        exact ⟨rfl, (Only.refl [] w).drewN _⟩

set_option maxRecDepth 100000 in
set_option maxHeartbeats 4000000 in
theorem RefOrdered_any (m : Nat) (A : Option Addr) (n c : Nat) (f : Nat → Int) (w : World) (h : IntsIn w .i64 A n f) (d : Bool) (hd : d = true ↔ Ordered m n f) :
    Calls Try.prog 105 #[.int .i64 m, .slice A n c] w fun e w' => e = .returned (.bool d) ∧ Only [] w w' := by
  have hl := h.len
  unfold maxLen at hl
  have HI := Lib.hid h
  have HD := Lib.hid hd
  clear h hd
  go_enter Try.func105, Try.ntmps105
  go_wp2_with fail
  go_loopw [5, 6] (fun i _ wr => ∃ k nn : Nat, k ≤ n ∧ i = .int .i64 k ∧ wr = w.drewN nn ∧ Hid (Ordered m k f)) (fun i _ _ => n - (intOf i).toNat)
  case atStart => exact ⟨0, 0, Nat.zero_le _, rfl, rfl, Lib.hid ⟨fun i hi => by omega, fun i hi => by omega⟩⟩
  case round =>
    obtain ⟨k, nn, hk, rfl, rfl, HO⟩ := hrel
    by_cases hlt : k < n
    · obtain ⟨x, hx⟩ : ∃ x, f k = x := ⟨_, rfl⟩
      obtain ⟨b, off, rfl, hb, hc⟩ := HI.out.row (by omega)
      have HC := Lib.hid hc
      replace hc := hc k hlt
      rw [hx] at hc
      have HX := Lib.hid hx
      by_cases hbad : x < 0 ∨ (¬ x < 0 ∧ (m : Int) ≤ x)
      · obtain rfl : d = false := by
          rw [Bool.eq_false_iff]
          intro e
          have := (HD.out.1 e).1 k hlt
          rw [hx] at this
          omega
        clear hx
        rcases hbad with hbad | ⟨hb1, hb2⟩
        all_goals
          go_wp2_with fail
          go_ret
          exact ⟨rfl, (Only.refl [] w).drewN _⟩
      · have h0 : ¬ x < 0 := by omega
        have h1 : ¬ (m : Int) ≤ x := by omega
        clear hbad hx
        go_wp2_with fail
        go_loopw [6] (fun i wr => ∃ j nj : Nat, j ≤ k ∧ i = .int .i64 j ∧ wr = w.drewN nj ∧ Hid (∀ t, t < j → f t ≠ x)) (fun i _ => k - (intOf i).toNat)
        case atStart => exact ⟨0, nn, Nat.zero_le _, rfl, rfl, Lib.hid fun t ht => by omega⟩
        case round =>
          obtain ⟨j, nj, hj, rfl, rfl, HN⟩ := hrel
          by_cases hjk : j < k
          · have hcj := HC.out j (by omega)
            obtain ⟨y, hy⟩ : ∃ y, f j = y := ⟨_, rfl⟩
            rw [hy] at hcj
            by_cases he : y = x
            · obtain rfl : d = false := by
                rw [Bool.eq_false_iff]
                intro e
                exact (HD.out.1 e).2 k hlt j hjk (by rw [hy, he, HX.out])
              subst he
              clear hy
              go_wp2_with fail
              go_quiet (fail)
              go_wp2_with fail
              go_ret
              exact ⟨rfl, ((Only.refl [] w).drewN _).drewN _⟩
            · have qe : (y == x) = false := by simp; omega
              have HN2 := Lib.hid (show ∀ t, t < j + 1 → f t ≠ x from fun t ht => by
                by_cases e : t = j
                · rw [e, hy]; exact he
                · exact HN.out t (by omega))
              clear hy
              go_wp2_with fail
              go_quiet (fail)
              go_wp2_with fail
              go_roundw
              case rel => exact ⟨j + 1, nj + nq, by omega, by go_num, rfl, HN2⟩
              case measure => simp [intOf]; omega
          · obtain rfl : j = k := by omega
            have HO2 := Lib.hid (show Ordered m (j + 1) f from ⟨fun i hi => by
              by_cases e : i = j
              · rw [e, HX.out]; omega
              · exact HO.out.1 i (by omega), fun i hi t ht => by
              by_cases e : i = j
              · rw [e, HX.out]; exact HN.out t (by omega)
              · exact HO.out.2 i (by omega) t ht⟩)
            go_wp2_with fail
            go_roundw
            case rel => exact ⟨j + 1, nj, by omega, by go_num, rfl, HO2⟩
            case measure => simp [intOf]; omega
    · obtain rfl : k = n := by omega
      obtain rfl : d = true := HD.out.2 HO.out
      go_wp2_with fail
      go_ret
      exact ⟨rfl, (Only.refl [] w).drewN _⟩

set_option maxRecDepth 100000 in
set_option maxHeartbeats 4000000 in
theorem RefEven_any (n : Nat) (hn : n ≤ 65536) (w : World) : Calls Try.prog 108 #[.int .i64 n] w fun e w' => ∃ A c, e = .returned (.slice A n c) ∧ IntsIn w' .i64 A n (fun _ => 1) ∧ Only [] w w' := by
  have hmk := mk_ints64 n (by omega)
  go_enter Try.func108, Try.ntmps108
  go_wp2_with fail
  clear hmk
  go_loopw [4] (fun i wr => ∃ k : Nat, k ≤ n ∧ i = .int .i64 k ∧ Hid (Row64 wr w.heap.size n (fun j => if j < k then 1 else 0)) ∧ Hid (Only [] w wr)) (fun i _ => n - (intOf i).toNat)
  case atStart => exact ⟨0, Nat.zero_le _, rfl, Lib.hid ((made_row64 (heap_alloc_new w _)).congr fun i _ => by rw [if_neg (by omega)]), Lib.hid ((Only.refl [] w).alloc _)⟩
  case round =>
    obtain ⟨k, hk, rfl, H1, HO⟩ := hrel
    by_cases hlt : k < n
    · have c1 := H1.out.cell hlt
      have z1 := H1.out.frozen k
      have H2 := Lib.hid ((H1.out.put k 1).congr (f' := fun j => if j < k + 1 then 1 else 0) fun i _ => by
        unfold Go.Proofs.Ytbafacdknaopjaa.put
        by_cases e : i = k
        · rw [if_pos e, if_pos (by omega)]
        · rw [if_neg e]
          show (if i < k then 1 else 0) = _
          by_cases e2 : i < k
          · rw [if_pos e2, if_pos (by omega)]
          · rw [if_neg e2, if_neg (by omega)])
      have HO2 := Lib.hid (HO.out.to ((Only.refl [w.heap.size] wr).setCell (g := w.heap.size) (i := k) (by simp) (.int .i64 1)) fun i hi hlt => by simp at hi; omega)
      clear H1
      go_wp2_with fail
      go_roundw
      case rel => exact ⟨k + 1, by omega, by go_num, H2, HO2⟩
      case measure => simp [intOf]; omega
    · obtain rfl : k = n := by omega
      go_wp2_with fail
      go_ret
      refine ⟨_, _, rfl, ⟨fun _ => ⟨_, 0, rfl, H1.out.lt, fun j hj => ?_⟩, fun j hj => (show (Lit.int .i64 1).wf = true by decide), by unfold maxLen; omega⟩, HO.out⟩
      have := H1.out.cell hj
      rw [if_pos hj] at this
      rw [Nat.zero_add]
      exact this

end Go.Proofs.Ytbafacdknaopjaa

/-
  The reference of chapter 27: the row of a graph, by least labels.
-/
namespace Go.Proofs.Ytbafacdknaopjaa
open Go.RowKit
set_option linter.unusedSimpArgs false
set_option linter.unusedSectionVars false

theorem squares_bound {n : Nat} {lab wt : Nat → Nat} (h : Labs n lab) (hT : total n wt ≤ 3037000499) : squares n lab wt ≤ 9223372036854775807 := by
  obtain ⟨T, h1, h2⟩ := sqL_le (l := setsL n lab wt) fun v hv => setsL_nonneg v hv
  rw [setsL_sum fun a ha => ⟨h.lt ha, (h a ha).2⟩] at h1
  rw [sqL_sets] at h2
  have h4 : T * T ≤ 3037000499 * 3037000499 := Nat.mul_le_mul (by omega) (by omega)
  omega
theorem sqTo_le {n k : Nat} (lab wt : Nat → Nat) (h : k ≤ n) : sqTo n k lab wt ≤ squares n lab wt := total_pre h _
theorem sumTo_le {n k : Nat} (lab wt : Nat → Nat) (x : Nat) (h : k ≤ n) : sumTo k lab wt x ≤ total n wt := Nat.le_trans (total_pre h _) (sumOf_le n lab wt x)
theorem bigTo_le {n k : Nat} (lab wt : Nat → Nat) : bigTo n k lab wt ≤ total n wt := by
  refine maxL_le (by omega) fun v hv => ?_
  obtain ⟨a, _, rfl⟩ := List.mem_map.1 hv
  have := sumOf_le n lab wt a
  omega
/-- The edges of the whole list. -/
def alls (p q : Nat → Nat) (m : Nat) : List (Nat × Nat) := eprs p q id m
theorem agrees_alls {p q : Nat → Nat} {m : Nat} {l : Nat → Nat} (h : ∀ j, j < m → l (p j) = l (q j)) : Agrees (eprs p q id m) l := by
  intro e he
  obtain ⟨i, hi, rfl⟩ := List.mem_map.1 he
  exact h i (List.mem_range.1 hi)
theorem labK_joins {p q o : Nat → Nat} {m j : Nat} (h : j < m) : labK p q o m (p (o j)) = labK p q o m (q (o j)) := fold_joins (eprs p q o m) id (p := (p (o j), q (o j))) (List.mem_map.2 ⟨j, List.mem_range.2 h, rfl⟩)
/-- The labels lie in a row. -/
structure Lbl (w : World) (n R L : Nat) (l : Nat → Nat) (wr : World) : Prop where
  res : wr.heap[R]? = some (.cells #[.int .i64 0, .int .i64 0, .int .i64 0] 164 (0, 0))
  row : Row wr L n l
  only : Only [] w wr
theorem Lbl.put {w : World} {n R L : Nat} {l : Nat → Nat} {wr : World} (h : Lbl w n R L l wr) (hL : w.heap.size ≤ L) (i x : Nat) : Lbl w n R L (put l i x) (wr.setCell ⟨L, i, none⟩ (.int .i64 x)) := by
  have hne : R ≠ L := fun e => by
    obtain ⟨cs, hc⟩ := h.row.heap
    rw [← e, h.res] at hc
    cases hc
  exact ⟨head_other h.res hne _, h.row.put i x, h.only.to ((Only.refl [L] wr).setCell (by simp) _) fun j hj hlt => by simp at hj; omega⟩
theorem Lbl.keep {w : World} {n R L : Nat} {l : Nat → Nat} {wr W : World} (h : Lbl w n R L l wr) (o : Only [] wr W) : Lbl w n R L l W :=
  ⟨(o.block R (heap_lt h.res) (by simp)).trans h.res, h.row.only o (by simp), h.only.trans o⟩
theorem Lbl.congr {w : World} {n R L : Nat} {l l' : Nat → Nat} {wr : World} (h : Lbl w n R L l wr) (e : ∀ i, i < n → l i = l' i) : Lbl w n R L l' wr := ⟨h.res, h.row.congr e, h.only⟩

/-- What the row of a graph returns. -/
def RowPost (n : Nat) (lab wt : Nat → Nat) (w : World) (e : Ending) (w' : World) : Prop := e = .returned (.agg #[.int .i64 (largest n lab wt), .int .i64 (roots n lab), .int .i64 (squares n lab wt)]) ∧ Only [] w w'

/-- The row under way. -/
structure RAcc (w : World) (n R L X : Nat) (lab wt : Nat → Nat) (k : Nat) (wr : World) : Prop where
  lbl : Lbl w n R L lab wr
  box : wr.heap[X]? = some (.cells #[.int .i64 (bigTo n k lab wt), .int .i64 (roots k lab : Nat), .int .i64 (sqTo n k lab wt : Nat)] 164 (0, 0))
theorem RAcc.same {w : World} {n R L X : Nat} {lab wt : Nat → Nat} {k : Nat} {wr : World} (h : RAcc w n R L X lab wt k wr) (hk : lab k ≠ k) : RAcc w n R L X lab wt (k + 1) wr :=
  ⟨h.lbl, by rw [bigTo_succ, rootsTo_succ, sqTo_succ, if_neg hk, if_neg hk, if_neg hk]; exact h.box⟩
theorem Lbl.xput {w : World} {n R L X : Nat} {l : Nat → Nat} {wr : World} (h : Lbl w n R L l wr) (hX : w.heap.size ≤ X) (h1 : R ≠ X) (h2 : L ≠ X) (i : Nat) (v : Value) : Lbl w n R L l (wr.setCell ⟨X, i, none⟩ v) :=
  ⟨head_other h.res h1 _, h.row.set_other h2 _, h.only.to ((Only.refl [X] wr).setCell (by simp) _) fun j hj hlt => by simp at hj; omega⟩

theorem RAcc.up {w : World} {n R L X : Nat} {lab wt : Nat → Nat} {k st : Nat} {bg : Int} {ro sq : Nat} {wr : World} (h : RAcc w n R L X lab wt k wr) (hX : w.heap.size ≤ X) (h1 : R ≠ X) (h2 : L ≠ X)
    (e1 : bigTo n k lab wt = bg) (e2 : roots k lab = ro) (e3 : sqTo n k lab wt = sq) (HN : bigTo n (k + 1) lab wt = max bg (st : Nat) ∧ roots (k + 1) lab = ro + 1 ∧ sqTo n (k + 1) lab wt = sq + st * st) :
    (¬ bg < (st : Int) → RAcc w n R L X lab wt (k + 1) ((wr.setCell ⟨X, 1, none⟩ (.int .i64 ((ro : Int) + 1))).setCell ⟨X, 2, none⟩ (.int .i64 ((sq : Int) + (st : Int) * (st : Int))))) ∧
    (bg < (st : Int) → RAcc w n R L X lab wt (k + 1) (((wr.setCell ⟨X, 1, none⟩ (.int .i64 ((ro : Int) + 1))).setCell ⟨X, 2, none⟩ (.int .i64 ((sq : Int) + (st : Int) * (st : Int)))).setCell ⟨X, 0, none⟩ (.int .i64 st))) := by
  have hb := h.box
  rw [e1, e2, e3] at hb
  have k2 := heap_setCell_same _ _ 2 _ 164 (.int .i64 ((sq : Int) + (st : Int) * (st : Int))) (heap_setCell_same wr _ 1 _ 164 (.int .i64 ((ro : Int) + 1)) hb)
  have k3 := heap_setCell_same _ _ 0 _ 164 (.int .i64 (st : Int)) k2
  have l2 := (h.lbl.xput hX h1 h2 1 (.int .i64 ((ro : Int) + 1))).xput hX h1 h2 2 (.int .i64 ((sq : Int) + (st : Int) * (st : Int)))
  have hs : ((sq + st * st : Nat) : Int) = (sq : Int) + (st : Int) * (st : Int) := by rw [Int.natCast_add, Int.natCast_mul]
  refine ⟨fun hc => ⟨l2, ?_⟩, fun hc => ⟨l2.xput hX h1 h2 0 _, ?_⟩⟩
  · rw [HN.1, HN.2.1, HN.2.2, hs, show max bg (st : Int) = bg by omega]
    exact k2
  · rw [HN.1, HN.2.1, HN.2.2, hs, show max bg (st : Int) = st by omega]
    exact k3

set_option maxRecDepth 100000 in
set_option maxHeartbeats 8000000 in
theorem RefRow_any (A E : Option Addr) (n c m ce : Nat) (f u v x : Nat → Int) (p q wt : Nat → Nat) (w : World) (hw : IntsIn w .i64 A n f) (hE : EdgesIn w E m u v x) (hf : ∀ j, j < n → f j = wt j) (hpq : ∀ j, j < m → u j = p j ∧ v j = q j ∧ p j < n ∧ q j < n)
    (hT : total n wt ≤ 3037000499) (hn : n ≤ 65536) : Calls Try.prog 111 #[.slice A n c, .slice E m ce] w (RowPost n (labK p q id m) wt w) := by
  have hml := hE.len
  unfold maxLen at hml
  have hmk := mk_ints n (by omega)
  have hLabs : Labs n (labK p q id m) := Labs.fold (eprs p q id m) (Labs.id n) (fun e he => by
    obtain ⟨i, hi, rfl⟩ := List.mem_map.1 he
    exact ⟨(hpq i (List.mem_range.1 hi)).2.2.1, (hpq i (List.mem_range.1 hi)).2.2.2⟩)
  have HL := Lib.hid hLabs
  have HW := Lib.hid hw
  have HE := Lib.hid hE
  have HF := Lib.hid hf
  have HP := Lib.hid hpq
  have HT := Lib.hid hT
  have H0 := Lib.hid (show Lbl w n w.heap.size (w.heap.size + 1) (fun _ => 0) ((w.alloc (.cells #[.int .i64 0, .int .i64 0, .int .i64 0] 164)).alloc (.cells (madeCells #[.int .i64 0] n) 3)) from by
    have hh := heap_alloc_new (w.alloc (.cells #[.int .i64 0, .int .i64 0, .int .i64 0] 164)) (.cells (madeCells #[.int .i64 0] n) 3)
    rw [World.size_alloc] at hh
    exact ⟨(heap_alloc_old _ _ (by simp only [World.size_alloc]; omega)).trans (heap_alloc_new _ _), made_row hh, ((Only.refl [] w).alloc _).alloc _⟩)
  have HJ := Lib.hid (fun j (hj : j < m) => labK_joins (p := p) (q := q) (o := id) hj)
  clear hw hE hf hpq hT hLabs
  obtain ⟨lab, hlab⟩ : ∃ lab, labK p q id m = lab := ⟨_, rfl⟩
  have HD := Lib.hid (show ∀ l, Inner n lab l → (∀ j, j < m → l (p j) = l (q j)) → ∀ a, a < n → l a = lab a from fun l hi ha => by
    subst hlab
    exact Inner.done HL.out hi (agrees_alls ha))
  rw [hlab] at HL HJ ⊢
  clear hlab
  obtain ⟨R, hR⟩ : ∃ R, w.heap.size = R := ⟨_, rfl⟩
  obtain ⟨L, hLs⟩ : ∃ L, R + 1 = L := ⟨_, rfl⟩
  have hRL : R < L := by omega
  have hRw : w.heap.size ≤ R := by omega
  rw [hR, hLs] at H0
  have HR := Lib.hid (And.intro hR hLs)
  clear hR hLs
  go_enter Try.func111, Try.ntmps111
  go_wp2_with fail
  rw [HR.out.1, HR.out.2]
  clear hmk
  go_loopw [6] (fun i wr => ∃ k : Nat, k ≤ n ∧ i = .int .i64 k ∧ Hid (Lbl w n R L (fun j => if j < k then j else 0) wr)) (fun i _ => n - (intOf i).toNat)
  case atStart => exact ⟨0, Nat.zero_le _, rfl, Lib.hid (H0.out.congr fun i _ => by rw [if_neg (by omega)])⟩
  case round =>
    clear H0
    obtain ⟨k, hk, rfl, H1⟩ := hrel
    by_cases hlt : k < n
    · have z1 := H1.out.row.frozen k
      have c1 := H1.out.row.cell hlt
      have H2 := Lib.hid ((H1.out.put (by omega) k k).congr (l' := fun j => if j < k + 1 then j else 0) fun i _ => by
        unfold Go.Proofs.Ytbafacdknaopjaa.put
        by_cases e : i = k
        · rw [if_pos e, if_pos (by omega), e]
        · rw [if_neg e]
          show (if i < k then i else 0) = _
          by_cases e2 : i < k
          · rw [if_pos e2, if_pos (by omega)]
          · rw [if_neg e2, if_neg (by omega)])
      clear H1
      go_wp2_with fail
      go_roundw
      case rel => exact ⟨k + 1, by omega, by go_num, H2⟩
      case measure => simp [intOf]; omega
    · obtain rfl : k = n := by omega
      have H2 := Lib.hid (H1.out.congr (l' := id) fun i hi => by rw [if_pos hi]; rfl)
      clear H1 hlt hk
      go_wp2_with fail
      go_loopg [7] (total k id + 1) (fun g ag wr => ∃ (b : Bool) (l : Nat → Nat), ag = .bool b ∧ Hid (g = if b then total k l + 1 else 0) ∧ Hid (Lbl w k R L l wr) ∧ Hid (Inner k lab l) ∧ Hid (b = false → ∀ j, j < m → l (p j) = l (q j)))
      case atStart => exact ⟨true, id, rfl, Lib.hid (by simp), H2, Lib.hid (Inner.start k lab), Lib.hid fun h => by cases h⟩
      case round =>
        clear H2
        obtain ⟨b, l, rfl, hg, H3, HI, HA⟩ := hrel
        cases b with
        | true =>
          go_wp2_with fail
          go_loopw [7, 8, 9, 10] (fun ag i _ _ wr => ∃ (b : Bool) (j : Nat) (l' : Nat → Nat), ag = .bool b ∧ j ≤ m ∧ i = .int .i64 j ∧ Hid (Lbl w k R L l' wr) ∧ Hid (Inner k lab l') ∧ Hid (b = false → l' = l ∧ ∀ i, i < j → l (p i) = l (q i)) ∧ Hid (total k l' ≤ total k l) ∧ Hid (b = true → total k l' < total k l)) (fun _ i _ _ _ => m - (intOf i).toNat)
          case atStart => exact ⟨false, 0, l, rfl, Nat.zero_le _, rfl, H3, HI, Lib.hid fun _ => ⟨rfl, fun i hi => by omega⟩, Lib.hid (Nat.le_refl _), Lib.hid fun h => by cases h⟩
          case round =>
            clear H3 HI HA
            obtain ⟨b, j, l', rfl, hj, rfl, H4, HI4, HB4, HLe, HLt⟩ := hrel
            by_cases hjm : j < m
            · obtain ⟨bE, off, rfl, hb, e0, e1, _⟩ := (HE.out.only H4.out.only).cell hjm
              obtain ⟨hu, hv, hpn, hqn⟩ := HP.out j hjm
              rw [hu] at e0
              rw [hv] at e1
              have c1 := H4.out.row.cell hpn
              have c2 := H4.out.row.cell hqn
              have z1 := H4.out.row.frozen (p j)
              have z2 := H4.out.row.frozen (q j)
              by_cases he : l' (p j) = l' (q j)
              · have HB5 := Lib.hid (show b = false → l' = l ∧ ∀ i, i < j + 1 → l (p i) = l (q i) from fun h => ⟨(HB4.out h).1, fun i hi => by
                  by_cases e : i = j
                  · have := he; rw [(HB4.out h).1] at this; rw [e]; exact this
                  · exact (HB4.out h).2 i (by omega)⟩)
                obtain ⟨la, hla⟩ : ∃ la, l' (p j) = la := ⟨_, rfl⟩
                rw [← he] at c2
                rw [hla] at c1 c2
                obtain ⟨a, ha⟩ : ∃ a, p j = a := ⟨_, rfl⟩
                obtain ⟨d, hd⟩ : ∃ d, q j = d := ⟨_, rfl⟩
                rw [ha] at e0 c1 z1 hpn
                rw [hd] at e1 c2 z2 hqn
                clear hu hv he hla ha hd HB4
                go_wp2_with fail
                go_region
                go_wp2_with fail
                go_roundw
                case rel => exact ⟨b, j + 1, l', rfl, by omega, by go_num, Lib.hid (H4.out.keep ((Only.refl [] _).drewN 1)), HI4, HB5, HLe, HLt⟩
                case measure => simp [intOf]; omega
              · have HI5 := Lib.hid (HI4.out.step hpn hqn (HJ.out j hjm))
                have HLt5 := Lib.hid (show total k (Go.Proofs.Ytbafacdknaopjaa.put (Go.Proofs.Ytbafacdknaopjaa.put l' (p j) (min (l' (p j)) (l' (q j)))) (q j) (min (l' (p j)) (l' (q j)))) < total k l from Nat.lt_of_lt_of_le (put_less hpn hqn he) HLe.out)
                have hne : ¬ p j = q j := fun e => he (by rw [e])
                have H5 := Lib.hid ((H4.out.put (by omega) (p j) (min (l' (p j)) (l' (q j)))).put (by omega) (q j) (min (l' (p j)) (l' (q j))))
                obtain ⟨l5, hl5⟩ : ∃ l5, Go.Proofs.Ytbafacdknaopjaa.put (Go.Proofs.Ytbafacdknaopjaa.put l' (p j) (min (l' (p j)) (l' (q j)))) (q j) (min (l' (p j)) (l' (q j))) = l5 := ⟨_, rfl⟩
                rw [hl5] at HI5 HLt5 H5
                obtain ⟨la, hla⟩ : ∃ la, l' (p j) = la := ⟨_, rfl⟩
                obtain ⟨ld, hld⟩ : ∃ ld, l' (q j) = ld := ⟨_, rfl⟩
                rw [hla] at c1 H5 he
                rw [hld] at c2 H5 he
                obtain ⟨a, ha⟩ : ∃ a, p j = a := ⟨_, rfl⟩
                obtain ⟨d, hd⟩ : ∃ d, q j = d := ⟨_, rfl⟩
                rw [ha] at e0 c1 z1 hpn H5 hne
                rw [hd] at e1 c2 z2 hqn H5 hne
                have qe : ((la : Int) == (ld : Int)) = false := by simp; omega
                clear hu hv hla hld ha hd HB4 hl5 H4
                by_cases hc : ld < la
                · rw [Nat.min_eq_right (by omega)] at H5
                  go_wp2_with fail
                  go_region
                  go_wp2_with fail
                  go_region
                  go_wp2_with fail
                  go_roundw
                  case rel => exact ⟨true, j + 1, l5, rfl, by omega, by go_num, Lib.hid (H5.out.keep ((Only.refl [] _).drewN 2)), HI5, Lib.hid (fun h => by cases h), Lib.hid (Nat.le_of_lt HLt5.out), Lib.hid fun _ => HLt5.out⟩
                  case measure => simp [intOf]; omega
                · rw [Nat.min_eq_left (by omega)] at H5
                  go_wp2_with fail
                  go_region
                  go_wp2_with fail
                  go_region
                  go_wp2_with fail
                  go_roundw
                  case rel => exact ⟨true, j + 1, l5, rfl, by omega, by go_num, Lib.hid (H5.out.keep ((Only.refl [] _).drewN 2)), HI5, Lib.hid (fun h => by cases h), Lib.hid (Nat.le_of_lt HLt5.out), Lib.hid fun _ => HLt5.out⟩
                  case measure => simp [intOf]; omega
            · obtain rfl : j = m := by omega
              go_wp2_with fail
              go_roundg (if b then total k l' + 1 else 0)
              case measure =>
                have h1 : gk = total k l + 1 := by have := hg.out; simpa using this
                cases b with
                | true => have := HLt.out rfl; simp; omega
                | false => simp; omega
              case rel => exact ⟨b, l', rfl, Lib.hid rfl, H4, HI4, Lib.hid fun h => by rw [(HB4.out h).1]; exact (HB4.out h).2⟩
        | false =>
          have H4 := Lib.hid (H3.out.congr (l' := lab) fun a ha => HD.out l HI.out (HA.out rfl) a ha)
          have hRr := Lib.hid (heap_lt H3.out.res)
          have hLr := Lib.hid H3.out.row.lt
          obtain ⟨X, hX⟩ : ∃ X, wr.heap.size = X := ⟨_, rfl⟩
          have HX := Lib.hid hX
          clear H3 HI HA hg hX
          go_wp2_with fail
          rw [HX.out]
          go_loopw [12, 13, 14] (fun i _ _ wr => ∃ j : Nat, j ≤ k ∧ i = .int .i64 j ∧ Hid (RAcc w k R L X lab wt j wr)) (fun i _ _ _ => k - (intOf i).toNat)
          case atStart =>
            refine ⟨0, Nat.zero_le _, rfl, Lib.hid ⟨H4.out.keep ((Only.refl [] wr).alloc _), ?_⟩⟩
            have hh := heap_alloc_new wr (.cells #[.int .i64 0, .int .i64 0, .int .i64 0] 164)
            rw [HX.out] at hh
            exact hh
          case round =>
            clear H4
            obtain ⟨j, hj, rfl, H5⟩ := hrel
            by_cases hjk : j < k
            · have c1 := H5.out.lbl.row.cell hjk
              by_cases he : lab j = j
              · have HS := Lib.hid he
                rw [he] at c1
                clear he
                have qn : ((j : Int) != (j : Int)) = false := by simp
                go_wp2_with fail
                go_loop [13, 14] (fun s i => ∃ r : Nat, j ≤ r ∧ r ≤ k ∧ i = .int .i64 r ∧ s = .int .i64 (sumTo r lab wt j : Nat)) (fun _ i => k - (intOf i).toNat)
                case atStart => exact ⟨j, Nat.le_refl _, hj, rfl, by rw [sumTo_low HL.out (Nat.le_refl _) hj]; rfl⟩
                case round =>
                  obtain ⟨r, hjr, hr, rfl, rfl⟩ := hrel
                  have b0 := Nat.le_trans (sumTo_le lab wt j hr) HT.out
                  by_cases hrk : r < k
                  · have c2 := H5.out.lbl.row.cell hrk
                    obtain ⟨bw, ow, rfl, hcw⟩ := (HW.out.only H5.out.lbl.only).cell hrk
                    rw [HF.out r hrk] at hcw
                    have b1 := Nat.le_trans (sumTo_le lab wt j (show r + 1 ≤ k by omega)) HT.out
                    have HQ := Lib.hid (sumTo_succ r lab wt j)
                    rw [HQ.out] at b1
                    obtain ⟨lr, hlr⟩ : ∃ lr, lab r = lr := ⟨_, rfl⟩
                    rw [hlr] at c2 b1 HQ
                    obtain ⟨st, hst⟩ : ∃ st, sumTo r lab wt j = st := ⟨_, rfl⟩
                    rw [hst] at b0 b1 HQ ⊢
                    clear hlr hst
                    by_cases e : lr = j
                    · rw [if_pos e] at b1 HQ
                      subst e
                      have qe : ((lr : Int) == (lr : Int)) = true := by simp
                      go_wp2_with fail
                      go_round
                      case rel => exact ⟨r + 1, by omega, by omega, by go_num, by rw [HQ.out]; go_num⟩
                      case measure => simp [intOf]; omega
                    · rw [if_neg e] at HQ
                      have qe : ((lr : Int) == (j : Int)) = false := by simp; omega
                      go_wp2_with fail
                      go_round
                      case rel => exact ⟨r + 1, by omega, by omega, by go_num, by rw [HQ.out]; rfl⟩
                      case measure => simp [intOf]; omega
                  · obtain rfl : r = k := by omega
                    have g1 := sqTo_le lab wt (show j + 1 ≤ r by omega)
                    have g2 := Nat.le_trans g1 (squares_bound HL.out HT.out)
                    rw [sqTo_succ, if_pos HS.out, ← sumTo_all] at g2
                    have g3 := Int.le_trans (bigTo_le (n := r) (k := j) lab wt) (show ((total r wt : Nat) : Int) ≤ 3037000499 by have := HT.out; omega)
                    have g4 := bigTo_nonneg r j lab wt
                    have g5 := roots_le j lab
                    have HN := Lib.hid (show bigTo r (j + 1) lab wt = max (bigTo r j lab wt) (sumTo r lab wt j : Nat) ∧ roots (j + 1) lab = roots j lab + 1 ∧ sqTo r (j + 1) lab wt = sqTo r j lab wt + sumTo r lab wt j * sumTo r lab wt j from ⟨by rw [bigTo_succ, if_pos HS.out, sumTo_all], by rw [rootsTo_succ, if_pos HS.out], by rw [sqTo_succ, if_pos HS.out, sumTo_all]⟩)
                    have hx := H5.out.box
                    have HU := Lib.hid (fun (st ro sq : Nat) (bg : Int) => H5.out.up (st := st) (bg := bg) (ro := ro) (sq := sq) (by have := HX.out; have := hRr.out; omega) (by have := HX.out; have := hRr.out; omega) (by have := HX.out; have := hLr.out; omega))
                    obtain ⟨st, hst⟩ : ∃ st, sumTo r lab wt j = st := ⟨_, rfl⟩
                    obtain ⟨sq, hsq⟩ : ∃ sq, sqTo r j lab wt = sq := ⟨_, rfl⟩
                    obtain ⟨bg, hbg⟩ : ∃ bg, bigTo r j lab wt = bg := ⟨_, rfl⟩
                    obtain ⟨ro, hro⟩ : ∃ ro, roots j lab = ro := ⟨_, rfl⟩
                    rw [hst] at b0 g2 HN ⊢
                    rw [hsq] at g2 HN hx
                    rw [hbg] at g3 g4 HN hx
                    rw [hro] at g5 HN hx
                    have b2 : ((st : Int) * (st : Int)) = ((st * st : Nat) : Int) := by rw [Int.natCast_mul]
                    have b3 : (st : Int) * (st : Int) ≤ 9223372036854775807 := by rw [b2]; omega
                    have b4 : 0 ≤ (st : Int) * (st : Int) := by rw [b2]; omega
                    have b5 : (sq : Int) + (st : Int) * (st : Int) ≤ 9223372036854775807 := by rw [b2]; omega
                    have cx0 := cell_of_heap (i := 0) hx rfl
                    have cx1 := cell_of_heap (i := 1) hx rfl
                    have cx2 := cell_of_heap (i := 2) hx rfl
                    replace cx0 : wr.cell? ⟨X, 0, none⟩ = some (.int .i64 bg) := cx0
                    replace cx1 : wr.cell? ⟨X, 1, none⟩ = some (.int .i64 (ro : Nat)) := cx1
                    replace cx2 : wr.cell? ⟨X, 2, none⟩ = some (.int .i64 (sq : Nat)) := cx2
                    have zx := fun i => frozen_of_heap (i := i) hx
                    obtain ⟨hA, hB⟩ := HU.out st ro sq bg hbg hro hsq HN.out
                    clear hst hsq hbg hro b2 hx g1
                    by_cases hc : bg < (st : Int)
                    · have HZ := Lib.hid (hB hc)
                      clear hA hB
                      go_wp2_with fail
                      go_roundw
                      case rel => exact ⟨j + 1, by omega, by go_num, HZ⟩
                      case measure => simp [intOf]; omega
                    · have HZ := Lib.hid (hA hc)
                      clear hA hB
                      go_wp2_with fail
                      go_roundw
                      case rel => exact ⟨j + 1, by omega, by go_num, HZ⟩
                      case measure => simp [intOf]; omega
              · have qn : ((lab j : Int) != (j : Int)) = true := by simp; omega
                have H6 := Lib.hid (H5.out.same he)
                go_wp2_with fail
                go_roundw
                case rel => exact ⟨j + 1, by omega, by go_num, H6⟩
                case measure => simp [intOf]; omega
            · obtain rfl : j = k := by omega
              have hx := H5.out.box
              rw [bigTo_all, sqTo_all] at hx
              have cx0 := cell_of_heap (i := 0) hx rfl
              have cx1 := cell_of_heap (i := 1) hx rfl
              have cx2 := cell_of_heap (i := 2) hx rfl
              replace cx0 : wr.cell? ⟨X, 0, none⟩ = some (.int .i64 (largest j lab wt)) := cx0
              replace cx1 : wr.cell? ⟨X, 1, none⟩ = some (.int .i64 (roots j lab : Nat)) := cx1
              replace cx2 : wr.cell? ⟨X, 2, none⟩ = some (.int .i64 (squares j lab wt : Nat)) := cx2
              have hr := H5.out.lbl.res
              have zr := fun i => frozen_of_heap (i := i) hr
              have hrx : R < X := by have := HX.out; have := hRr.out; omega
              have d0 := cell_of_heap (i := 0) hr rfl
              have d1 := cell_of_heap (i := 1) hr rfl
              have d2 := cell_of_heap (i := 2) hr rfl
              replace d0 : wr.cell? ⟨R, 0, none⟩ = some (.int .i64 0) := d0
              replace d1 : wr.cell? ⟨R, 1, none⟩ = some (.int .i64 0) := d1
              replace d2 : wr.cell? ⟨R, 2, none⟩ = some (.int .i64 0) := d2
              have k5 := heap_setCell_same _ _ 2 _ 164 (.int .i64 (squares j lab wt : Nat)) (heap_setCell_same _ _ 1 _ 164 (.int .i64 (roots j lab : Nat)) (heap_setCell_same wr _ 0 _ 164 (.int .i64 (largest j lab wt)) hr))
              have f0 := cell_of_heap (i := 0) k5 rfl
              have f1 := cell_of_heap (i := 1) k5 rfl
              have f2 := cell_of_heap (i := 2) k5 rfl
              have HO3 := Lib.hid (H5.out.lbl.only.to ((((Only.refl [R] wr).setCell (g := R) (i := 0) (by simp) (.int .i64 (largest j lab wt))).setCell (g := R) (i := 1) (by simp) (.int .i64 (roots j lab : Nat))).setCell (g := R) (i := 2) (by simp) (.int .i64 (squares j lab wt : Nat))) fun i hi hlt => by simp at hi; omega)
              clear hx hr k5
              go_wp2_with fail
              obtain ⟨W5, hW5⟩ : ∃ W5, ((wr.setCell ⟨R, 0, none⟩ (.int .i64 (largest j lab wt))).setCell ⟨R, 1, none⟩ (.int .i64 (roots j lab : Nat))).setCell ⟨R, 2, none⟩ (.int .i64 (squares j lab wt : Nat)) = W5 := ⟨_, rfl⟩
              rw [hW5] at f0 f1 f2 HO3 ⊢
              replace f0 : W5.cell? ⟨R, 0, none⟩ = some (.int .i64 (largest j lab wt)) := f0
              replace f1 : W5.cell? ⟨R, 1, none⟩ = some (.int .i64 (roots j lab : Nat)) := f1
              replace f2 : W5.cell? ⟨R, 2, none⟩ = some (.int .i64 (squares j lab wt : Nat)) := f2
              clear hW5 zr cx0 cx1 cx2 d0 d1 d2
              refine bodyPost_ret (v := .agg #[.int .i64 (largest j lab wt), .int .i64 (roots j lab : Nat), .int .i64 (squares j lab wt : Nat)]) (by simp [results, Try.results111, go_sem, f0, f1, f2]) rfl ⟨rfl, HO3.out⟩

end Go.Proofs.Ytbafacdknaopjaa
