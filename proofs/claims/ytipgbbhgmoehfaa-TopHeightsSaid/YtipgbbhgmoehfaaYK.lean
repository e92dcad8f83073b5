import Derived.LoopNIn
import Derived.LoopIn
import Derived.Sort.CutIn
import Derived.Maps.AppendAt
import Derived.Test.YtipgbbhgmoehfaaYI
import Derived.Test.YtipgbbhgmoehfaaYD
import Derived.Test.YtipgbbhgmoehfaaYF
import Derived.Test.YtipgbbhgmoehfaaYJ
/-
  sweep: steps.
-/
namespace Go.Proofs.Ytipgbbhgmoehfaa
open Go.RowKit Go.Shelf
attribute [local go_sem] Oper.semAt_some
set_option linter.unusedSimpArgs false
set_option linter.unusedSectionVars false

theorem Row64.heap' {w : World} {g n : Nat} {f : Nat → Nat} (h : Row64 w g n f) : ∃ o, w.heap[g]? = some o ∧ o.isCells = true := let ⟨_, hc, _⟩ := h; ⟨_, hc, rfl⟩
/-- The blocks of a tally are blocks of cells. -/
theorem TalAt.cellsF {W : World} {F : List Nat} {A n : Nat} {lab wt : Nat → Nat} (h : TalAt W F A n lab wt) : ∀ k, k ∈ F → ∃ o, W.heap[k]? = some o ∧ o.isCells = true := by
  obtain ⟨G, S, B, Fd, t, f, cg, rfl, h⟩ := h
  intro k hk
  rcases List.mem_cons.1 hk with rfl | hk
  · exact ⟨_, h.head, rfl⟩
  · rcases List.mem_cons.1 hk with rfl | hk
    · exact h.row.heap'
    · rcases List.mem_append.1 hk with hk | hk
      · obtain ⟨U, L, Z, up, rt, d, least, size, cu, cl, cz, rfl, hd⟩ := h.sets
        have e : ∀ {g f}, Row W g n f → ∃ o, W.heap[g]? = some o ∧ o.isCells = true := fun hr => let ⟨_, hc⟩ := hr.heap; ⟨_, hc, rfl⟩
        simp only [List.mem_cons, List.not_mem_nil, or_false] at hk
        rcases hk with rfl | rfl | rfl | rfl
        · exact ⟨_, hd.head, rfl⟩
        · exact e hd.rowU
        · exact e hd.rowL
        · exact e hd.rowZ
      · obtain ⟨cs, hc | hc⟩ := block_type h.bag hk
        · exact ⟨_, hc, rfl⟩
        · exact ⟨_, hc, rfl⟩
theorem TalAt.others {W W' : World} {F : List Nat} {A n : Nat} {lab wt : Nat → Nat} (h : TalAt W F A n lab wt) (ho : Only F W W') : KeepsOthers W W' :=
  ⟨ho.size, fun k o hk hc => (ho.block k (heap_lt hk) fun m => by
    obtain ⟨o', h1, h2⟩ := h.cellsF k m
    rw [hk] at h1
    cases h1
    rw [hc] at h2
    cases h2).trans hk⟩

/-- The unions of the first k edges of an order. -/
def epr (p q o : Nat → Nat) (i : Nat) : Nat × Nat := (p (o i), q (o i))
def eprs (p q o : Nat → Nat) (k : Nat) : List (Nat × Nat) := (List.range k).map (epr p q o)
def labK (p q o : Nat → Nat) (k : Nat) : Nat → Nat := (eprs p q o k).foldl uni id
theorem eprs_succ (p q o : Nat → Nat) (k : Nat) : eprs p q o (k + 1) = eprs p q o k ++ [epr p q o k] := by simp [eprs, List.range_succ]
theorem labK_succ (p q o : Nat → Nat) (k : Nat) : labK p q o (k + 1) = uni (labK p q o k) (p (o k), q (o k)) := by
  unfold labK
  rw [eprs_succ, List.foldl_append]
  rfl
theorem labK_zero (p q o : Nat → Nat) : labK p q o 0 = id := rfl

/-- The quantities of the rows of an order. -/
def rA (n : Nat) (p q o wt : Nat → Nat) (k : Nat) : Int := largest n (labK p q o k) wt
def rB (n : Nat) (p q o : Nat → Nat) (k : Nat) : Int := (roots n (labK p q o k) : Nat)
def rC (n : Nat) (p q o wt : Nat → Nat) (k : Nat) : Int := (squares n (labK p q o k) wt : Nat)
/-- The edges of the first k of an order. -/
structure Picked (w : World) (n me m : Nat) (E O : Option Addr) (u v x fo : Nat → Int) (p q o : Nat → Nat) : Prop where
  edges : EdgesIn w E me u v x
  order : IntsIn w .i64 O m fo
  ends : ∀ j, j < me → u j = p j ∧ v j = q j ∧ p j < n ∧ q j < n
  inds : ∀ j, j < m → fo j = o j ∧ o j < me
theorem Picked.only {w W : World} {n me m : Nat} {E O : Option Addr} {u v x fo : Nat → Int} {p q o : Nat → Nat} (h : Picked w n me m E O u v x fo p q o) (k : Only [] w W) : Picked W n me m E O u v x fo p q o :=
  ⟨h.edges.only k, h.order.only k, h.ends, h.inds⟩

/-- What the iterator over the steps of an order reads. -/
structure StepFact (A Tb Lb Ob : Nat) (E O : Option Addr) (me ce m co : Nat) (u v x f : Nat → Int) (W : World) : Prop where
  ct : W.cell? ⟨Tb, 0, none⟩ = some (.pointer (some ⟨A, 0, none⟩))
  cl : W.cell? ⟨Lb, 0, none⟩ = some (.slice E me ce)
  co : W.cell? ⟨Ob, 0, none⟩ = some (.slice O m co)
  edges : EdgesIn W E me u v x
  order : IntsIn W .i64 O m f

set_option maxRecDepth 100000 in
set_option maxHeartbeats 1000000 in
theorem steps_any (a E O : Option Addr) (me ce m co : Nat) (w : World) : Calls Try.prog 26 #[.pointer a, .slice E me ce, .slice O m co] w fun e w' =>
    e = .returned (.func (.func 57) #[] #[.pointer (some ⟨w.heap.size + 1 + 1, 0, none⟩), .pointer (some ⟨w.heap.size, 0, none⟩), .pointer (some ⟨w.heap.size + 1, 0, none⟩)]) ∧
    ((w.alloc (.cells #[.pointer a] 74)).alloc (.cells #[.slice E me ce] 23)).alloc (.cells #[.slice O m co] 30) = w' := by
  go_enter Try.func26, Try.ntmps26
  go_wp2
  go_ret
  exact ⟨rfl, rfl⟩

set_option maxRecDepth 100000 in
set_option maxHeartbeats 4000000 in
theorem steps1_in (n A : Nat) (Tb Lb Ob : Nat) (E O : Option Addr) (me ce m co : Nat) (u v x f : Nat → Int) (p q o : Nat → Nat) (hm : m ≤ 65536) (hf : ∀ j, j < m → f j = o j ∧ o j < me) (hpq : ∀ j, j < me → u j = p j ∧ v j = q j) :
    StepsIn n 57 #[.pointer (some ⟨Ob, 0, none⟩), .pointer (some ⟨Tb, 0, none⟩), .pointer (some ⟨Lb, 0, none⟩)] m (fun _ W => StepFact A Tb Lb Ob E O me ce m co u v x f W) (fun j => #[.pointer (some ⟨A, 0, none⟩), .int .i64 (p (o j)), .int .i64 (q (o j))]) := by
  intro l J J' W hJ hJ' hY hF hF0 hU h0
  have hyr0 := hY 0 W (Nat.zero_le _) h0
  rw [show ((0 : Nat) : Int) = 0 from rfl] at hyr0
  obtain ⟨fn, tmps, assign, body, hyr, hR⟩ := hyr0
  have HR := Lib.hid hR
  have HJ := Lib.hid hJ
  have HJ' := Lib.hid hJ'
  have HY := Lib.hid hY
  have HF := Lib.hid hF
  have HF0 := Lib.hid hF0
  have HU := Lib.hid hU
  have Hf := Lib.hid hf
  have Hpq := Lib.hid hpq
  clear hR hJ hJ' hY hF hF0 hU hf hpq h0
  have hdp : ∀ m : Nat, (Fence.wide.depth.isSome = true → 1 ≤ m) := fun m h => by cases h
  refine callsIn_of_wp Try.func57 rfl trivial ?_ rfl
  simp only [Try.ntmps57, List.size_toArray, List.length_cons, List.length_nil, Nat.reduceAdd, Nat.reduceSub, Array.replicate_succ, Array.replicate_zero, List.push_toArray, List.append_toArray, List.nil_append, List.cons_append]
  gi_wp2_with fail
  refine ⟨hdp _, HR.out.mono ?_⟩
  rintro e W1 ⟨rfl, h1⟩
  have H1 := Lib.hid h1
  obtain ⟨_, _, co1, _, _⟩ := HF0.out W1 h1
  clear h1 HR hyr
  gi_wp2_with fail
  gi_loopw [12] (fun i wr => ∃ k : Nat, k ≤ m ∧ i = .int .i64 k ∧ Hid (J' k wr)) (fun i _ => m - (intOf i).toNat)
  case atStart => exact ⟨0, Nat.zero_le _, rfl, H1⟩
  case round =>
    clear H1 co1
    obtain ⟨k, hk, rfl, H2⟩ := hrel
    by_cases hlt : k < m
    · have hFk := HF.out k wr hlt H2.out
      have c1 := hFk.ct
      have c2 := hFk.cl
      obtain ⟨hfk, hok⟩ := Hf.out k hlt
      obtain ⟨bO, oO, rfl, hcO⟩ := hFk.order.cell hlt
      rw [hfk] at hcO
      obtain ⟨bE, oE, rfl, hbE, e0, e1, _⟩ := hFk.edges.cell hok
      rw [(Hpq.out _ hok).1] at e0
      rw [(Hpq.out _ hok).2] at e1
      have CU := Lib.hid (HU.out k wr.drew hlt (HJ'.out k wr wr.drew H2.out ((Only.refl [] wr).drewN 1)))
      obtain ⟨ok, hok2⟩ : ∃ ok, o k = ok := ⟨_, rfl⟩
      rw [hok2] at hcO e0 e1 CU hok
      clear hFk hfk hok2
      obtain ⟨a, ha⟩ : ∃ a, p ok = a := ⟨_, rfl⟩
      obtain ⟨d, hd⟩ : ∃ d, q ok = d := ⟨_, rfl⟩
      rw [ha] at e0 CU
      rw [hd] at e1 CU
      clear ha hd
      have hmix : Try.prog.follows .mixedOrders = true := by kernel_rfl
      gi_wp2_with fail
      gi_cut [28] from 17 (fun _ wc => Hid (J (k + 1) wc))
      case first =>
        gi_region_with_o ((refine ⟨trivial, hdp _, callsIn_wide.2 (CU.out.mono ?_)⟩); rintro e W3 ⟨⟨_, _, rfl⟩, hj3⟩)
        all_goals
          have HJ3 := Lib.hid hj3
          clear hj3
          gi_wp2
          gi_meet
          exact HJ3
      case rest =>
        have hy2 := HY.out (k + 1) wc (by omega) hcut.out
        rw [show ((k + 1 : Nat) : Int) = (k : Int) + 1 from by omega] at hy2
        obtain ⟨fn2, tmps2, assign2, body2, hyr2, hR2⟩ := hy2
        have HR2 := Lib.hid hR2
        clear hR2 hcut
        gi_wp2_with fail
        refine ⟨hdp _, HR2.out.mono ?_⟩
        rintro e W4 ⟨rfl, h4⟩
        have H4 := Lib.hid h4
        clear h4 HR2 hyr2
        gi_wp2_with fail
        go_roundw
        case rel => exact ⟨k + 1, by omega, by go_num, H4⟩
        case measure => simp [intOf]; omega
    · obtain rfl : k = m := by omega
      gi_wp2_with fail
      go_end0
      exact ⟨⟨_, rfl⟩, H2.out⟩

end Go.Proofs.Ytipgbbhgmoehfaa

/-
  A path whose edges are added in an order that goes round: how many components there are (plain).
-/
namespace Go.Proofs.Ytipgbbhgmoehfaa
set_option linter.unusedSimpArgs false

theorem turn_hits {m t i : Nat} (hi : i < m) : ∃ j, j < m ∧ (j + t) % m = i := by
  have hm : 0 < m := by omega
  have hr := Nat.mod_lt t hm
  have hd := Nat.div_add_mod t m
  by_cases h : t % m ≤ i
  · refine ⟨i - t % m, by omega, ?_⟩
    rw [show i - t % m + t = i + m * (t / m) by omega, Nat.add_mul_mod_self_left]
    exact Nat.mod_eq_of_lt hi
  · refine ⟨i + m - t % m, by omega, ?_⟩
    rw [show i + m - t % m + t = i + m * (t / m + 1) by rw [Nat.mul_add]; omega, Nat.add_mul_mod_self_left]
    exact Nat.mod_eq_of_lt hi
theorem turn_apart {m t i k : Nat} (hi : i < m) (hk : k < i) : (k + t) % m ≠ (i + t) % m := by
  intro e
  have := Nat.sub_mod_eq_zero_of_mod_eq e.symm
  rw [show i + t - (k + t) = i - k by omega, Nat.mod_eq_of_lt (by omega)] at this
  omega
def pathQ (i : Nat) : Nat := i + 1
def turnO (m t : Nat) (i : Nat) : Nat := (i + t) % m
theorem epr_mem {p q o : Nat → Nat} {k i : Nat} (h : i < k) : (p (o i), q (o i)) ∈ eprs p q o k := List.mem_map.2 ⟨i, List.mem_range.2 h, rfl⟩
theorem eprs_len (p q o : Nat → Nat) (k : Nat) : (eprs p q o k).length = k := by simp [eprs]
theorem eprs_lt {p q o : Nat → Nat} {k n : Nat} (h : ∀ i, i < k → p (o i) < n ∧ q (o i) < n) : ∀ e ∈ eprs p q o k, e.1 < n ∧ e.2 < n := by
  intro e he
  obtain ⟨i, hi, rfl⟩ := List.mem_map.1 he
  exact h i (List.mem_range.1 hi)
theorem labK_labs {p q o : Nat → Nat} {k n : Nat} (h : ∀ i, i < k → p (o i) < n ∧ q (o i) < n) : Labs n (labK p q o k) := Labs.fold _ (Labs.id n) (eprs_lt h)
theorem win_le (lab : Nat → Nat) (p : Nat × Nat) : win lab p ≤ 1 := by unfold win; split <;> omega
/-- The number of unions after k edges. -/
def winK (p q o : Nat → Nat) (k : Nat) : Nat := wins id (eprs p q o k)
theorem winK_succ (p q o : Nat → Nat) (k : Nat) : winK p q o (k + 1) = winK p q o k + win (labK p q o k) (p (o k), q (o k)) := by
  unfold winK labK
  rw [eprs_succ, wins_snoc]
  rfl
theorem winK_le (p q o : Nat → Nat) (k : Nat) : winK p q o k ≤ k := by
  have := wins_le (eprs p q o k) id
  rwa [eprs_len] at this
theorem winK_more (p q o : Nat → Nat) (k d : Nat) : winK p q o (k + d) ≤ winK p q o k + d := by
  induction d with
  | zero => exact Nat.le_refl _
  | succ d ih =>
    have := winK_succ p q o (k + d)
    have := win_le (labK p q o (k + d)) (p (o (k + d)), q (o (k + d)))
    rw [show k + (d + 1) = k + d + 1 by omega]
    omega
theorem roots_labK {p q o : Nat → Nat} {k n : Nat} (h : ∀ i, i < k → p (o i) < n ∧ q (o i) < n) : roots n (labK p q o k) + winK p q o k = n := by
  have := wins_roots (eprs p q o k) (Labs.id n) (eprs_lt h)
  rw [roots_id] at this
  exact this
section
variable {m t : Nat} (hm : 1 ≤ m)
include hm
theorem turn_lt (i : Nat) : turnO m t i < m := Nat.mod_lt _ (by omega)
theorem path_lt {k : Nat} : ∀ i, i < k → id (turnO m t i) < m + 1 ∧ pathQ (turnO m t i) < m + 1 := fun i _ => by
  have := turn_lt (t := t) hm i
  unfold pathQ
  exact ⟨by show turnO m t i < m + 1; omega, by omega⟩
theorem path_end : roots (m + 1) (labK id pathQ (turnO m t) m) = 1 := by
  have hL := labK_labs (path_lt (t := t) (k := m) hm)
  have key : ∀ a, a ≤ m → labK id pathQ (turnO m t) m a = 0 := by
    intro a
    induction a with
    | zero => intro _; have := (hL 0 (by omega)).1; omega
    | succ a ih =>
      intro ha
      obtain ⟨j, hj, he⟩ := turn_hits (t := t) (show a < m by omega)
      have := fold_joins (eprs id pathQ (turnO m t) m) id (epr_mem (p := id) (q := pathQ) (o := turnO m t) hj)
      have e : turnO m t j = a := he
      rw [e] at this
      exact this.symm.trans (ih (by omega))
  refine Eq.trans ?_ (many_one (n := m + 1) (M := 0) (by omega))
  refine many_congr fun a ha => ?_
  rw [key a (by omega), Bool.eq_iff_iff]
  simp only [beq_iff_eq]
  exact eq_comm
/-- One component less with each edge. -/
theorem path_roots {k : Nat} (hk : k ≤ m) : roots (m + 1) (labK id pathQ (turnO m t) k) = m + 1 - k := by
  have h1 := roots_labK (path_lt (t := t) (k := m) hm)
  rw [path_end hm] at h1
  have h2 := roots_labK (path_lt (t := t) (k := k) hm)
  have h3 := winK_le id pathQ (turnO m t) k
  have h4 := winK_more id pathQ (turnO m t) k (m - k)
  rw [show k + (m - k) = m by omega] at h4
  omega
end
theorem largest_one {n : Nat} {lab : Nat → Nat} (hn : 1 ≤ n) (h : Labs n lab) : 1 ≤ largest n lab (fun _ => 1) := by
  have h0 := h 0 (by omega)
  have e : lab 0 = 0 := by omega
  refine Int.le_trans ?_ (maxL_ge (setsL_of (wt := fun _ => 1) (show 0 < n by omega) e))
  have := total_at_le (M := 0) (show 0 < n by omega) (fun a => if lab a = 0 then 1 else 0)
  rw [if_pos e] at this
  have h2 : 1 ≤ sumOf n lab (fun _ => 1) 0 := this
  omega
theorem largest_n {n : Nat} (lab : Nat → Nat) : largest n lab (fun _ => 1) ≤ n := by
  refine maxL_le (by omega) fun v hv => ?_
  obtain ⟨a, _, _, rfl⟩ := setsL_mem hv
  have := sumOf_le n lab (fun _ => 1) a
  rw [total_ones] at this
  omega

end Go.Proofs.Ytipgbbhgmoehfaa

/-
  What a step of a sweep changes (plain).
-/
namespace Go.Proofs.Ytipgbbhgmoehfaa
set_option linter.unusedSimpArgs false

theorem sum_largest {n : Nat} {lab : Nat → Nat} (wt : Nat → Nat) (h : Labs n lab) {a : Nat} (ha : a < n) : (sumOf n lab wt (lab a) : Int) ≤ largest n lab wt := maxL_ge (setsL_of (h.lt ha) (h a ha).2)
theorem sum_ge (lab wt : Nat → Nat) {n a : Nat} (ha : a < n) : wt a ≤ sumOf n lab wt (lab a) := by
  have := total_at_le (M := a) ha (fun b => if lab b = lab a then wt b else 0)
  rw [if_pos rfl] at this
  exact this
/-- One row after another one. -/
theorem row_step {p q o : Nat → Nat} {n k : Nat} (wt : Nat → Nat) (h : ∀ i, i < k + 1 → p (o i) < n ∧ q (o i) < n) :
    labK p q o (k + 1) = labK p q o k ∨ ∃ s t : Nat, wt (p (o k)) ≤ s ∧ wt (q (o k)) ≤ t ∧ (s : Int) ≤ rA n p q o wt k ∧ (t : Int) ≤ rA n p q o wt k ∧
      rA n p q o wt (k + 1) = max (rA n p q o wt k) (s + t : Nat) ∧ rB n p q o (k + 1) + 1 = rB n p q o k ∧ rC n p q o wt (k + 1) = rC n p q o wt k + 2 * (s * t : Nat) := by
  have hL := labK_labs (p := p) (q := q) (o := o) (k := k) (n := n) fun i hi => h i (by omega)
  obtain ⟨h1, h2⟩ := h k (by omega)
  by_cases e : labK p q o k (p (o k)) = labK p q o k (q (o k))
  · exact .inl (by rw [labK_succ]; exact uni_same e)
  · obtain ⟨_, _, f3, f4⟩ := uni_facts hL wt h1 h2 e
    have f5 := roots_uni hL (p := (p (o k), q (o k))) h1 h2 e
    refine .inr ⟨_, _, sum_ge (labK p q o k) wt h1, sum_ge (labK p q o k) wt h2, sum_largest wt hL h1, sum_largest wt hL h2, ?_, ?_, ?_⟩
    · unfold rA; rw [labK_succ]; exact f4
    · unfold rB; rw [labK_succ]; omega
    · unfold rC; rw [labK_succ, f3]; omega
theorem rA_zero (n : Nat) (p q o wt : Nat → Nat) : rA n p q o wt 0 = maxL ((List.range n).map fun a => (wt a : Int)) := by
  unfold rA largest
  rw [labK_zero, setsL_id]
theorem rB_zero (n : Nat) (p q o : Nat → Nat) : rB n p q o 0 = n := by unfold rB; rw [labK_zero, roots_id]
theorem squares_id (n : Nat) (wt : Nat → Nat) : squares n id wt = total n fun a => wt a * wt a := by
  unfold squares
  exact total_congr fun a ha => by rw [if_pos (show id a = a from rfl), sumOf_id ha]
theorem rC_zero (n : Nat) (p q o wt : Nat → Nat) : rC n p q o wt 0 = (total n fun a => wt a * wt a : Nat) := by unfold rC; rw [labK_zero, squares_id]
theorem maxL_ones (n : Nat) : maxL ((List.range n).map fun _ => ((1 : Nat) : Int)) = min (n : Int) 1 := by
  have h1 : maxL ((List.range n).map fun _ => ((1 : Nat) : Int)) ≤ 1 := maxL_le (by omega) fun v hv => by
    obtain ⟨_, _, rfl⟩ := List.mem_map.1 hv
    omega
  have h0 := maxL_nonneg ((List.range n).map fun _ => ((1 : Nat) : Int))
  rcases Nat.eq_zero_or_pos n with rfl | hn
  · rfl
  · have := maxL_ge (l := (List.range n).map fun _ => ((1 : Nat) : Int)) (v := 1) (List.mem_map.2 ⟨0, List.mem_range.2 hn, rfl⟩)
    omega
/-- The sum of squares lies below the sum times the greatest, and not below the square of that. -/
theorem total_mul (n : Nat) (f : Nat → Nat) (c : Nat) : total n (fun a => f a * c) = total n f * c := by
  induction n with
  | zero => simp [total]
  | succ n ih => simp only [total]; rw [ih, Nat.add_mul]
theorem squares_le {n : Nat} {lab wt : Nat → Nat} (h : Labs n lab) : (squares n lab wt : Int) ≤ (total n wt : Nat) * largest n lab wt := by
  have h0 := maxL_nonneg (setsL n lab wt)
  obtain ⟨M, hM⟩ : ∃ M : Nat, largest n lab wt = M := ⟨(largest n lab wt).toNat, by unfold largest; omega⟩
  rw [hM]
  have h1 : squares n lab wt ≤ total n fun a => if lab a = a then sumOf n lab wt a * M else 0 := total_le fun a ha => by
    by_cases e : lab a = a
    · rw [if_pos e, if_pos e]
      have := sum_largest wt h ha
      rw [e, hM] at this
      exact Nat.mul_le_mul_left _ (by omega)
    · rw [if_neg e, if_neg e]
      exact Nat.le_refl _
  have h2 : (total n fun a => if lab a = a then sumOf n lab wt a * M else 0) = (total n fun a => if lab a = a then sumOf n lab wt a else 0) * M := by
    rw [← total_mul]
    exact total_congr fun a _ => by
      by_cases e : lab a = a
      · rw [if_pos e, if_pos e]
      · rw [if_neg e, if_neg e, Nat.zero_mul]
  have h3 : (total n fun a => if lab a = a then sumOf n lab wt a else 0) = total n wt := by
    have := setsL_sum (n := n) (lab := lab) (wt := wt) fun a ha => ⟨h.lt ha, (h a ha).2⟩
    unfold setsL at this
    rw [sumL_filter] at this
    have e : ∀ a, (if (lab a == a) = true then sumOf n lab wt a else 0) = if lab a = a then sumOf n lab wt a else 0 := fun a => by simp
    simp only [e] at this
    omega
  rw [h2, h3] at h1
  have := Int.ofNat_le.2 h1
  rwa [Int.natCast_mul] at this
theorem squares_ge {n : Nat} (lab wt : Nat → Nat) : largest n lab wt * largest n lab wt ≤ (squares n lab wt : Int) := by
  by_cases hz : setsL n lab wt = []
  · unfold largest; rw [hz]
    simp [maxL]
  · have key : ∀ l : List Int, (∀ v ∈ l, 0 ≤ v) → l ≠ [] → maxL l ∈ l := by
      intro l
      induction l with
      | nil => intro _ h; exact absurd rfl h
      | cons v l ih =>
        intro h0 _
        simp only [maxL]
        by_cases e : l = []
        · subst e
          have := h0 v List.mem_cons_self
          simp only [maxL]
          rw [show max v 0 = v by omega]
          exact List.mem_cons_self
        · have hm := ih (fun u hu => h0 u (List.mem_cons_of_mem _ hu)) e
          rcases Int.le_total v (maxL l) with hle | hle
          · rw [show max v (maxL l) = maxL l by omega]; exact List.mem_cons_of_mem _ hm
          · rw [show max v (maxL l) = v by omega]; exact List.mem_cons_self
    obtain ⟨a, ha, hl, hv⟩ := setsL_mem (key _ (fun v hv => setsL_nonneg v hv) hz)
    have := total_at_le ha (fun a => if lab a = a then sumOf n lab wt a * sumOf n lab wt a else 0)
    rw [if_pos hl] at this
    unfold largest
    rw [hv]
    unfold squares
    rw [← Int.natCast_mul]
    exact Int.ofNat_le.2 this

end Go.Proofs.Ytipgbbhgmoehfaa

/-
  The levels of a graph: different weights in increasing order, the components up to each (plain).
-/
namespace Go.Proofs.Ytipgbbhgmoehfaa
set_option linter.unusedSimpArgs false

/-- The different weights of m edges, in increasing order: r of them. -/
structure Lev (m : Nat) (x : Nat → Int) (r : Nat) (th : Nat → Int) : Prop where
  up : ∀ i j, i < j → j < r → th i < th j
  of : ∀ i, i < r → ∃ j, j < m ∧ x j = th i
  all : ∀ j, j < m → ∃ i, i < r ∧ th i = x j
theorem Lev.le {m : Nat} {x : Nat → Int} {r : Nat} {th : Nat → Int} (h : Lev m x r th) {i j : Nat} (hij : i ≤ j) (hj : j < r) : th i ≤ th j := by
  rcases Nat.eq_or_lt_of_le hij with rfl | hl
  · exact Int.le_refl _
  · exact Int.le_of_lt (h.up i j hl hj)
theorem Lev.pt {m : Nat} {x : Nat → Int} {r r' : Nat} {th th' : Nat → Int} (h : Lev m x r th) (h' : Lev m x r' th') : ∀ i, i < r → i < r' → th i = th' i := by
  intro i
  induction i using Nat.strongRecOn with
  | ind i ih =>
    intro h1 h2
    have half : ∀ {r r' : Nat} {th th' : Nat → Int}, Lev m x r th → Lev m x r' th' → (∀ k, k < i → th k = th' k) → i < r → i < r' → th' i ≤ th i := by
      intro r r' th th' h h' ih h1 h2
      obtain ⟨j, hj, e⟩ := h.of i h1
      obtain ⟨k, hk, e2⟩ := h'.all j hj
      rcases Nat.lt_or_ge k i with hl | hl
      · have := ih k hl
        have := h.up k i hl h1
        omega
      · have := h'.le hl hk
        omega
    have a := half h h' (fun k hk => ih k hk (by omega) (by omega)) h1 h2
    have b := half h' h (fun k hk => (ih k hk (by omega) (by omega)).symm) h2 h1
    omega
theorem Lev.count {m : Nat} {x : Nat → Int} {r r' : Nat} {th th' : Nat → Int} (h : Lev m x r th) (h' : Lev m x r' th') : r = r' := by
  have half : ∀ {r r' : Nat} {th th' : Nat → Int}, Lev m x r th → Lev m x r' th' → r' ≤ r := by
    intro r r' th th' h h'
    by_cases hl : r < r'
    · obtain ⟨j, hj, e⟩ := h'.of r hl
      obtain ⟨k, hk, e2⟩ := h.all j hj
      have := h.pt h' k hk (by omega)
      have := h'.up k r hk hl
      omega
    · omega
  have := half h h'
  have := half h' h
  omega

/-- The edges up to a weight, and their components. -/
def leL (m : Nat) (x : Nat → Int) (t : Int) : List Nat := (List.range m).filter fun j => decide (x j ≤ t)
def leP (p q : Nat → Nat) (m : Nat) (x : Nat → Int) (t : Int) : List (Nat × Nat) := (leL m x t).map fun j => (p j, q j)
def labLe (p q : Nat → Nat) (m : Nat) (x : Nat → Int) (t : Int) : Nat → Nat := (leP p q m x t).foldl uni id
/-- An order of all edges by weight, and then by index. -/
structure ByWeight (m : Nat) (x : Nat → Int) (o : Nat → Nat) : Prop where
  perm : ((List.range m).map o).Perm (List.range m)
  up : ∀ i j, i < j → j < m → x (o i) < x (o j) ∨ (x (o i) = x (o j) ∧ o i < o j)
theorem ByWeight.lt {m : Nat} {x : Nat → Int} {o : Nat → Nat} (h : ByWeight m x o) {i : Nat} (hi : i < m) : o i < m := by
  have : o i ∈ (List.range m).map o := List.mem_map.2 ⟨i, List.mem_range.2 hi, rfl⟩
  exact List.mem_range.1 (h.perm.mem_iff.1 this)
theorem ByWeight.le {m : Nat} {x : Nat → Int} {o : Nat → Nat} (h : ByWeight m x o) {i j : Nat} (hij : i ≤ j) (hj : j < m) : x (o i) ≤ x (o j) := by
  rcases Nat.eq_or_lt_of_le hij with rfl | hl
  · exact Int.le_refl _
  · rcases h.up i j hl hj with h | ⟨h, _⟩ <;> omega
theorem ByWeight.hit {m : Nat} {x : Nat → Int} {o : Nat → Nat} (h : ByWeight m x o) {j : Nat} (hj : j < m) : ∃ i, i < m ∧ o i = j := by
  have : j ∈ (List.range m).map o := h.perm.mem_iff.2 (List.mem_range.2 hj)
  obtain ⟨i, hi, e⟩ := List.mem_map.1 this
  exact ⟨i, List.mem_range.1 hi, e⟩
theorem ByWeight.inj {m : Nat} {x : Nat → Int} {o : Nat → Nat} (h : ByWeight m x o) {i j : Nat} (hi : i < m) (hj : j < m) (e : o i = o j) : i = j := by
  rcases Nat.lt_trichotomy i j with hl | hl | hl
  · rcases h.up i j hl hj with h | ⟨_, h⟩
    · rw [e] at h; omega
    · omega
  · exact hl
  · rcases h.up j i hl hi with h | ⟨_, h⟩
    · rw [e] at h; omega
    · omega
/-- The first k of an order by weight, where the next one is greater, are all edges up to there. -/
theorem ByWeight.front {m : Nat} {x : Nat → Int} {o : Nat → Nat} (h : ByWeight m x o) {k : Nat} {t : Int} (hk : k ≤ m) (h1 : ∀ i, i < k → x (o i) ≤ t) (h2 : ∀ i, k ≤ i → i < m → t < x (o i)) : ((List.range k).map o).Perm (leL m x t) := by
  have e1 : ((List.range m).map o).filter (fun j => decide (x j ≤ t)) = (List.range k).map o := by
    have e : List.range m = List.range k ++ (List.range (m - k)).map (k + ·) := by
      rw [← List.range_add]
      congr 1
      omega
    rw [e, List.map_append, List.filter_append, List.filter_eq_self.2, List.filter_eq_nil_iff.2, List.append_nil]
    · intro j hj
      obtain ⟨i, hi, rfl⟩ := List.mem_map.1 hj
      obtain ⟨d, hd, rfl⟩ := List.mem_map.1 hi
      have := List.mem_range.1 hd
      have := h2 (k + d) (by omega) (by omega)
      simp
      omega
    · intro j hj
      obtain ⟨i, hi, rfl⟩ := List.mem_map.1 hj
      simpa using h1 i (List.mem_range.1 hi)
  rw [← e1]
  exact h.perm.filter _
theorem labK_front {m : Nat} {x : Nat → Int} {o p q : Nat → Nat} (h : ByWeight m x o) {k : Nat} {t : Int} (hk : k ≤ m) (h1 : ∀ i, i < k → x (o i) ≤ t) (h2 : ∀ i, k ≤ i → i < m → t < x (o i)) : labK p q o k = labLe p q m x t := by
  unfold labK labLe
  refine foldl_perm ?_ _
  have := (h.front hk h1 h2).map fun j => (p j, q j)
  rw [List.map_map] at this
  exact this

end Go.Proofs.Ytipgbbhgmoehfaa

/-
  sweep: collect, at plain rows.
-/
namespace Go.Proofs.Ytipgbbhgmoehfaa
open Go.RowKit Go.Shelf
attribute [local go_sem] Oper.semAt_some
set_option linter.unusedSimpArgs false
set_option linter.unusedSectionVars false

theorem infoRow : (Try.prog.info? 39).map (fun i => (i.zero, i.size, i.bytes)) = some (some (.agg #[.int .i64 0, .int .i64 0, .int .i64 0]), 3, 24) := by kernel_rfl
theorem cell_three_new (w : World) (x y z : Value) (t : TypeId) : ∀ j u, [x, y, z][j]? = some u → (w.alloc (.cells #[x, y, z] t)).cell? ((⟨w.heap.size, 0, none⟩ : Addr).add j) = some u := by
  intro j u h
  have hh := heap_alloc_new w (.cells #[x, y, z] t)
  have e : ((⟨w.heap.size, 0, none⟩ : Addr).add j) = ⟨w.heap.size, j, none⟩ := by unfold Addr.add; split <;> simp_all
  rw [e]
  exact cell_of_heap hh (by simpa using h)
theorem KeepC.owns {b : Nat} {W W' : World} {base e size n : Nat} {v : Value} {xs : List Value} (k : KeepC b W W') (h : W.ownsRow base e size v n xs) : W'.ownsRow base e size v n xs := by
  obtain ⟨hl, h0 | ⟨g, cap, cur, hv, hg, hh, rest⟩⟩ := h
  · exact ⟨hl, .inl h0⟩
  · exact ⟨hl, .inr ⟨g, cap, cur, hv, hg, k.cells _ _ hh rfl, rest⟩⟩
theorem KeepC.tal {b : Nat} {w W W' : World} {F : List Nat} {A n : Nat} {lab wt : Nat → Nat} (k : KeepC b W W') (h : OwnTal w W F A n lab wt) (hb : w.heap.size ≤ b) : OwnTal w W' F A n lab wt :=
  ⟨h.at_.same fun i hi => by
    obtain ⟨o, h1, h2⟩ := h.at_.cellsF i hi
    exact (k.cells i o h1 h2).trans h1.symm, h.new, k.onto h.only hb⟩

/-- The boxes of the collecting loop. -/
structure Boxes (s A : Nat) (rf : Nat) (E O : Option Addr) (me ce m co : Nat) (W : World) : Prop where
  b0 : Boxed W s 74 (.pointer (some ⟨A, 0, none⟩))
  b1 : ∃ T, T ≠ 39 ∧ Boxed W (s + 1) T (.func (.func rf) #[] #[])
  b4 : Boxed W (s + 4) 74 (.pointer (some ⟨A, 0, none⟩))
  b5 : Boxed W (s + 5) 23 (.slice E me ce)
  b6 : Boxed W (s + 6) 30 (.slice O m co)
theorem Boxes.map {s A rf : Nat} {E O : Option Addr} {me ce m co : Nat} {W W' : World} (h : Boxes s A rf E O me ce m co W) (k : ∀ i cs T f, s ≤ i → i < s + 7 → i ≠ s + 3 → T ≠ 39 → W.heap[i]? = some (.cells cs T f) → W'.heap[i]? = some (.cells cs T f)) : Boxes s A rf E O me ce m co W' := by
  obtain ⟨T, hT, h1⟩ := h.b1
  exact ⟨k _ _ _ _ (by omega) (by omega) (by omega) (by decide) h.b0, ⟨T, hT, k _ _ _ _ (by omega) (by omega) (by omega) hT h1⟩, k _ _ _ _ (by omega) (by omega) (by omega) (by decide) h.b4, k _ _ _ _ (by omega) (by omega) (by omega) (by decide) h.b5, k _ _ _ _ (by omega) (by omega) (by omega) (by decide) h.b6⟩
/-- What the collecting loop keeps: the tally after j unions, r rows. -/
def Coll (w0 : World) (s A n rf : Nat) (E O : Option Addr) (me ce m co : Nat) (wt : Nat → Nat) (lab : Nat → Nat → Nat) (a b c : Nat → Int) (j r : Nat) (W : World) : Prop :=
  ∃ F v, OwnTal w0 W F A n (lab j) wt ∧ (∀ k, k ∈ F → k < s ∨ s + 7 ≤ k) ∧ (∀ g, v.ownBlock = some g → g ∉ F) ∧ Boxed W (s + 3) 32 v ∧ W.ownsRow s 39 3 v r (edgesL a b c r) ∧ Boxes s A rf E O me ce m co W
theorem Coll.calm {w0 : World} {s A n rf : Nat} {E O : Option Addr} {me ce m co : Nat} {wt : Nat → Nat} {lab : Nat → Nat → Nat} {a b c : Nat → Int} {j r z : Nat} {W W' : World} (h : Coll w0 s A n rf E O me ce m co wt lab a b c j r W) (k : KeepC z W W') (hz : w0.heap.size ≤ z) : Coll w0 s A n rf E O me ce m co wt lab a b c j r W' := by
  obtain ⟨F, v, h1, h2, h3, h4, h5, h6⟩ := h
  exact ⟨F, v, k.tal h1 hz, h2, h3, k.cells _ _ h4 rfl, k.owns h5, h6.map fun i cs T f _ _ _ _ hi => k.cells _ _ hi rfl⟩
theorem Coll.union {w0 : World} {s A n rf : Nat} {E O : Option Addr} {me ce m co : Nat} {wt : Nat → Nat} {lab : Nat → Nat → Nat} {a b c : Nat → Int} {j r : Nat} {W : World} (h : Coll w0 s A n rf E O me ce m co wt lab a b c j r W) {x y : Nat} (hx : x < n) (hy : y < n) (hl : lab (j + 1) = uni (lab j) (x, y)) :
    Calls Try.prog 58 #[.pointer (some ⟨A, 0, none⟩), .int .i64 x, .int .i64 y] W fun e w' => (∃ x y, e = .returned (.tuple #[x, y])) ∧ Coll w0 s A n rf E O me ce m co wt lab a b c (j + 1) r w' ∧ KeepsOthers W w' := by
  obtain ⟨F, v, h1, h2, h3, h4, h5, h6⟩ := h
  refine (TUnion h1.at_ x y hx hy).mono ?_
  rintro e w' ⟨rfl, F', ht, ho, hg⟩
  have hb : ∀ i, s ≤ i → i < s + 7 → i ∉ F := fun i hi hi2 hm => by have := h2 i hm; omega
  have hsz : s + 7 ≤ W.heap.size := heap_lt h6.b6
  refine ⟨⟨_, _, rfl⟩, ⟨F', v, ?_, fun k hk => ?_, fun g hv hk => ?_, ?_, ?_, ?_⟩, h1.at_.others ho⟩
  · rw [hl]
    exact h1.step ht ho hg
  · rcases hg k hk with hk | hk
    · exact h2 k hk
    · exact .inr (by omega)
  · obtain ⟨_, ⟨rfl, _⟩ | ⟨g', cap, cur, rfl, _, hh, _⟩⟩ := h5
    · simp [Value.ownBlock] at hv
    · simp [Value.ownBlock] at hv
      subst hv
      rcases hg _ hk with hk | hk
      · exact h3 _ (by simp [Value.ownBlock]) hk
      · have := heap_lt hh; omega
  · exact (ho.block _ (heap_lt h4) (hb _ (by omega) (by omega))).trans h4
  · obtain ⟨hl, h0 | ⟨g, cap, cur, rfl, hg, hh, rest⟩⟩ := h5
    · exact ⟨hl, .inl h0⟩
    · exact ⟨hl, .inr ⟨g, cap, cur, rfl, hg, (ho.block _ (heap_lt hh) (h3 _ (by simp [Value.ownBlock]))).trans hh, rest⟩⟩
  · exact h6.map fun i cs T f hi hi2 _ _ hc => (ho.block _ (heap_lt hc) (hb _ hi hi2)).trans hc

/-- The boxes ahead of the loop. -/
theorem mk_rows (m : Nat) (hm : m ≤ 65536) (w : World) : (Instr.makeSlice 32 (.int .i64 0) (.int .i64 ((m : Int) + 1))).run Try.prog w = .ok (.slice (some ⟨w.heap.size, 0, none⟩) 0 (m + 1)) (w.alloc (.cells (madeCells #[.int .i64 0, .int .i64 0, .int .i64 0] ((m + 1) * 3)) 39)) := by
  obtain ⟨i0, hi, hz0, hz1, hz2⟩ := info_parts infoRow
  have h := run_makeSlice (P := Try.prog) (w := w) 32 39 i0 (.agg #[.int .i64 0, .int .i64 0, .int .i64 0]) Try.underlying32 hi hz0 .i64 .i64 0 ((m + 1 : Nat) : Int) (Int.le_refl _) (by omega) (by rw [hz1]; omega) (by rw [hz2]; omega) (by omega)
  rw [hz1] at h
  exact h

theorem Picked.fact {w W : World} {n me m : Nat} {E O : Option Addr} {u v x fo : Nat → Int} {p q o : Nat → Nat} {s A rf ce co : Nat} (hP : Picked w n me m E O u v x fo p q o) (hO : Only [] w W) (h : Boxes s A rf E O me ce m co W) : StepFact A (s + 4) (s + 5) (s + 6) E O me ce m co u v x fo W :=
  ⟨cell_of_heap (show W.heap[s + 4]? = _ from h.b4) rfl, cell_of_heap (show W.heap[s + 5]? = _ from h.b5) rfl, cell_of_heap (show W.heap[s + 6]? = _ from h.b6) rfl, hP.edges.only hO, hP.order.only hO⟩

def collObjs (s A rf : Nat) (E O : Option Addr) (me ce m co : Nat) (T : TypeId) (cs : Array Value) : List Obj :=
  [.cells #[.pointer (some ⟨A, 0, none⟩)] 74, .cells #[.func (.func rf) #[] #[]] T, .cells cs 39, .cells #[.slice (some ⟨s + 1 + 1, 0, none⟩) 0 (m + 1)] 32,
    .cells #[.pointer (some ⟨A, 0, none⟩)] 74, .cells #[.slice E me ce] 23, .cells #[.slice O m co] 30]
/-- An append as a step of a region that draws, inside a fence. -/
theorem stepIn_append {F : Fence} {n : Nat} {P : Program} {ops : Array Oper} {o : Oper} {a : Act} {w w' : World} {K : Act → World → Prop} {Q : Exit → Act → World → Prop} {E : Prop} {v' : Value} (hg : o.guard = none) (s x : Operand) (t : TypeId)
    (hop : o.op = Op.call { callee := Callee.builtin Builtin.append, args := #[s, x], argTypes := #[t, t] }) (hrun : (Builtin.append_ #[t, t] o.type #[a.eval s, a.eval x]).run P w = .ok v' w') (h : K (a.put o.dst v') w') :
    if Region.wanted o (yielded ops a.tmps) = true then Oper.wpIn F n P o a w K Q else E := by
  rw [if_pos (by simp [Region.wanted, hg])]
  unfold Oper.wpIn
  refine ⟨?_, ?_⟩
  · simp [Oper.about, hop, resolve, Target.leads, Sem.run_pure]
  · rw [Oper.semAt_plain F _ _ (by rw [hop]; intro c hc'; cases hc')]
    simp [execOp, hop, resolve, invoke, builtin, hrun, Result.andThen]
    exact h
theorem KeepsOthers.of_only {W W' : World} (h : Only [] W W') : KeepsOthers W W' := ⟨h.size, fun k o hk _ => (h.block k (Array.getElem?_eq_some_iff.1 hk).1 (by simp)).trans hk⟩
theorem coll_start {w0 w : World} {F : List Nat} {A n rf : Nat} {E O : Option Addr} {me ce m co : Nat} {wt : Nat → Nat} {a b c : Nat → Int} {T : TypeId} (hT : OwnTal w0 w F A n id wt) (hr : T ≠ 39) {p q o : Nat → Nat} (cs : Array Value) (hcs : cs.size = (m + 1) * 3) (hm : m + 1 ≤ maxLen) :
    Coll w0 w.heap.size A n rf E O me ce m co wt (labK p q o) a b c 0 0 (allocs w (collObjs w.heap.size A rf E O me ce m co T cs)) := by
  have hO := allocs_only (collObjs w.heap.size A rf E O me ce m co T cs) w
  have at_ : ∀ i ob, (collObjs w.heap.size A rf E O me ce m co T cs)[i]? = some ob → (allocs w (collObjs w.heap.size A rf E O me ce m co T cs)).heap[w.heap.size + i]? = some ob := fun i ob h => allocs_at h
  refine ⟨F, _, hT.keep hO, fun k hk => .inl (hT.at_.lt k hk), fun g hg hk => ?_, at_ 3 _ rfl, ⟨by simp [edgesL], .inr ⟨w.heap.size + 2, m + 1, cs, rfl, by omega, at_ 2 _ rfl, Nat.zero_le _, hm, hcs, by simp [edgesL]⟩⟩, ⟨at_ 0 _ rfl, ⟨T, hr, at_ 1 _ rfl⟩, at_ 4 _ rfl, at_ 5 _ rfl, at_ 6 _ rfl⟩⟩
  have := hT.at_.lt g hk
  simp [Value.ownBlock] at hg
  omega
/-- One row more. -/
theorem Coll.put {w0 : World} {s A n rf : Nat} {E O : Option Addr} {me ce m co : Nat} {wt : Nat → Nat} {lab : Nat → Nat → Nat} {a b c : Nat → Int} {j r : Nat} {W0 : World} (hs : w0.heap.size ≤ s) (h : Coll w0 s A n rf E O me ce m co wt lab a b c j r W0) :
    ∃ v, (∃ A c, v = .slice A r c) ∧ ∀ W, Only [] W0 W → s ≤ W.heap.size ∧ W.cell? ⟨s, 0, none⟩ = some (.pointer (some ⟨A, 0, none⟩)) ∧ W.cell? ⟨s + 1, 0, none⟩ = some (.func (.func rf) #[] #[]) ∧ W.cell? ⟨s + 3, 0, none⟩ = some v ∧ W.ownsRow s 39 3 v r (edgesL a b c r) ∧
      ∀ w3 v' tmp, w3.ownsRow s 39 3 v' (r + 1) (edgesL a b c r ++ [.int .i64 (a r), .int .i64 (b r), .int .i64 (c r)]) → (W.alloc tmp).grownBy w3 v.ownBlock →
      (v'.ownBlock = v.ownBlock ∨ v'.ownBlock = some (W.alloc tmp).heap.size) → w3.cell? ⟨s + 3, 0, none⟩ = some v ∧ w3.frozen? ⟨s + 3, 0, none⟩ = false ∧ Coll w0 s A n rf E O me ce m co wt lab a b c j (r + 1) (w3.setCell ⟨s + 3, 0, none⟩ v') ∧ KeepsOthers W (w3.setCell ⟨s + 3, 0, none⟩ v') := by
  obtain ⟨F, v, h1, h2, h3, h4, h5, h6⟩ := h
  refine ⟨v, row_slice h5, fun W hO => ?_⟩
  replace h1 := h1.keep hO
  replace h4 : Boxed W (s + 3) 32 v := (hO.block _ (heap_lt h4) (by simp)).trans h4
  replace h5 := (KeepC.of_only (b := 0) hO).owns h5
  replace h6 := h6.map (W' := W) fun i cs T f _ _ _ _ hi => (hO.block _ (heap_lt hi) (by simp)).trans hi
  clear hO W0
  have hsz : s + 7 ≤ W.heap.size := heap_lt h6.b6
  obtain ⟨T1, hT1, hb1⟩ := h6.b1
  refine ⟨by omega, h6.b0.cell, hb1.cell, h4.cell, h5, fun w3 v' tmp ho hg hat => ?_⟩
  obtain ⟨k1, k2, k3, k4, k5⟩ := h4.appended (by decide) h5 (by omega) (by omega) ho hg
  have hrow : ∀ g, v.ownBlock = some g → ∃ cs, W.heap[g]? = some (.cells cs 39 (0, 0)) := fun g e => by
    rcases h5.2 with ⟨rfl, _⟩ | ⟨g', cap, cur, rfl, _, hh, _⟩
    · simp [Value.ownBlock] at e
    · simp [Value.ownBlock] at e; subst e; exact ⟨_, hh⟩
  have keep : ∀ i, i < W.heap.size → some i ≠ v.ownBlock → i ≠ s + 3 → (w3.setCell ⟨s + 3, 0, none⟩ v').heap[i]? = W.heap[i]? := fun i hi hv hne => by
    rw [heap_setCell_other _ _ _ _ (by exact hne), hg.block i (by rw [World.size_alloc]; omega) hv, heap_alloc_old _ _ hi]
  have tp : ∀ i cs T f, T ≠ 39 → W.heap[i]? = some (.cells cs T f) → some i ≠ v.ownBlock := fun i cs T f hT hi e => by
    obtain ⟨cs', hc⟩ := hrow i e.symm
    rw [hi] at hc
    cases hc
    exact hT rfl
  refine ⟨k1.cell, k1.frozen, ⟨F, v', ⟨h1.at_.same fun i hi => ?_, h1.new, ⟨k5.os.trans h1.only.os, k5.tape.trans h1.only.tape, k5.output.trans h1.only.output, Nat.le_trans h1.only.size k5.size, fun i hi hn => (k5.block i (by omega)).trans (h1.only.block i hi hn)⟩⟩, h2, fun g hv hk => ?_, k2, by rw [edgesL_succ]; exact k3, ?_⟩, k4⟩
  · have := h2 i hi
    exact keep i (h1.at_.lt i hi) (fun e => h3 i e.symm hi) (by omega)
  · rcases hat with e | e
    · exact h3 g (by rw [← e]; exact hv) hk
    · rw [e, World.size_alloc] at hv
      have := h1.at_.lt g hk
      cases hv
      omega
  · exact h6.map fun i cs T f _ _ hne hT hi => (keep i (heap_lt hi) (tp i cs T f hT hi) hne).trans hi

set_option maxRecDepth 100000 in
set_option maxHeartbeats 8000000 in
theorem collect_in (w0 : World) (A n : Nat) (E O : Option Addr) (me ce m co : Nat) (u v x fo : Nat → Int) (p q o wt : Nat → Nat) (F : List Nat) (w : World) (hT : OwnTal w0 w F A n id wt) (hP : Picked w0 n me m E O u v x fo p q o) (hm : m ≤ 65536)
    (rd : ∀ (W : World) (F : List Nat) (lab : Nat → Nat), TalAt W F A n lab wt → Calls Try.prog 27 #[.pointer (some ⟨A, 0, none⟩)] W fun e w' => e = .returned (.agg #[.int .i64 (largest n lab wt), .int .i64 (roots n lab), .int .i64 (squares n lab wt)]) ∧ Only [] W w') :
    CallsIn Fence.wide 6 Try.prog 66 #[.pointer (some ⟨A, 0, none⟩), .slice E me ce, .slice O m co, .func (.func 27) #[] #[]] w fun e w' =>
      ∃ vo, e = .returned vo ∧ w'.ownsRow w.heap.size 39 3 vo (m + 1) (edgesL (rA n p q o wt) (rB n p q o) (rC n p q o wt) (m + 1)) ∧ Only [] w0 w' := by
  obtain ⟨i0, hi, hz0, hz1, hz2⟩ := info_parts infoRow
  have hmk := mk_rows m hm
  obtain ⟨s, hs⟩ : ∃ s, w.heap.size = s := ⟨_, rfl⟩
  have HT := Lib.hid hT
  have HP := Lib.hid hP
  have HRd := Lib.hid rd
  have HS := Lib.hid hs
  clear hT hP rd hs
  refine callsIn_of_wp_marks Try.func66 rfl trivial ?_ rfl
  simp only [Try.ntmps66, List.size_toArray, List.length_cons, List.length_nil, Nat.reduceAdd, Nat.reduceSub, Array.replicate_succ, Array.replicate_zero, List.push_toArray, List.append_toArray, List.nil_append, List.cons_append]
  gi_wp2_with fail
  clear hmk
  refine ⟨trivial, (callsIn_wide.2 (steps_any _ _ _ _ _ _ _ _)).mono ?_⟩
  rintro e w' ⟨rfl, rfl⟩
  gi_wp2
  have hmix : Try.prog.follows .mixedOrders = true := by kernel_rfl
  have hdp : ∀ m : Nat, (Fence.wide.depth.isSome = true → 1 ≤ m) := fun m h => by cases h
  have hsw : w0.heap.size ≤ w.heap.size := HT.out.only.size
  have HC := Lib.hid (coll_start (rf := 27) (E := E) (O := O) (me := me) (ce := ce) (m := m) (co := co) (a := rA n p q o wt) (b := rB n p q o) (c := rC n p q o wt) (T := 80) (p := p) (q := q) (o := o) HT.out (by decide) (madeCells #[.int .i64 0, .int .i64 0, .int .i64 0] ((m + 1) * 3)) (size_madeCells _ _) (by unfold maxLen; omega))
  obtain ⟨W1, hW1⟩ : ∃ W1, allocs w (collObjs w.heap.size A 27 E O me ce m co 80 (madeCells #[.int .i64 0, .int .i64 0, .int .i64 0] ((m + 1) * 3))) = W1 := ⟨_, rfl⟩
  have HO1 := Lib.hid (hW1 ▸ allocs_only _ w : Only [] w W1)
  rw [hW1] at HC
  change Code.wpIn _ _ _ _ _ _ (allocs w (collObjs w.heap.size A 27 E O me ce m co 80 (madeCells #[.int .i64 0, .int .i64 0, .int .i64 0] ((m + 1) * 3))))
  rw [hW1]
  have hs1 : w0.heap.size ≤ W1.heap.size := Nat.le_trans hsw HO1.out.size
  clear hW1
  rw [HS.out] at HC hsw ⊢
  refine range_steps (by omega) (gf := 57) (lb := #[.pointer (some ⟨s + 1 + 1 + 1 + 1 + 1 + 1, 0, none⟩), .pointer (some ⟨s + 1 + 1 + 1 + 1, 0, none⟩), .pointer (some ⟨s + 1 + 1 + 1 + 1 + 1, 0, none⟩)]) (m := m) (Fact := fun _ W => StepFact A (s + 4) (s + 5) (s + 6) E O me ce m co u v x fo W) (U := fun j => #[.pointer (some ⟨A, 0, none⟩), .int .i64 (p (o j)), .int .i64 (q (o j))]) rfl (enters_of Try.func57 (by kernel_rfl) rfl) ?hseq rfl
    (fun j W => Coll w0 s A n 27 E O me ce m co wt (labK p q o) (rA n p q o wt) (rB n p q o) (rC n p q o wt) j j W) (fun j W => Coll w0 s A n 27 E O me ce m co wt (labK p q o) (rA n p q o wt) (rB n p q o) (rC n p q o wt) j (j + 1) W) ?ca ?cb HC.out ?fact ?fr ?assign ?body ?hU ?done
  case hseq => exact steps1_in 5 A (s + 4) (s + 5) (s + 6) E O me ce m co u v x fo p q o hm HP.out.inds (fun j hj => ⟨(HP.out.ends j hj).1, (HP.out.ends j hj).2.1⟩)
  case ca => exact fun j W W' h k => h.calm k hs1
  case cb => exact fun j W W' h k => h.calm k hs1
  case fact =>
    rintro j W ⟨F', v', h1, _, _, _, _, h6⟩
    exact HP.out.fact h1.only h6
  case assign =>
    intro l j W K hK
    gi_wp2
    exact hK
  case hU =>
    intro j W hj h
    obtain ⟨_, hol⟩ := HP.out.inds j hj
    obtain ⟨_, _, h1, h2⟩ := HP.out.ends (o j) hol
    exact h.union h1 h2 (labK_succ p q o j)
  case body =>
    intro l j W hc hj
    have HG := Lib.hid (show ∀ W2, Only [] W W2 → Calls Try.prog 27 #[.pointer (some ⟨A, 0, none⟩)] W2 fun e w' => e = .returned (.agg #[.int .i64 (rA n p q o wt j), .int .i64 (rB n p q o j), .int .i64 (rC n p q o wt j)]) ∧ Only [] W2 w' from fun W2 hO => by
      obtain ⟨F', _, h1, _⟩ := hc
      exact HRd.out W2 F' _ (h1.at_.keep hO))
    obtain ⟨v, _, hput⟩ := hc.put hsw
    obtain ⟨_, c0, c1, c3, _, _⟩ := hput W (Only.refl _ _)
    have HR := Lib.hid (show ∀ W2, Only [] W W2 → W2.cell? ⟨s + 3, 0, none⟩ = some v ∧ (W2.alloc (.cells #[.int .i64 (rA n p q o wt j), .int .i64 (rB n p q o j), .int .i64 (rC n p q o wt j)] 39)).cell? ⟨s + 3, 0, none⟩ = some v ∧ ∃ g' cap' w3, (Builtin.append_ #[32, 32] 32 #[v, .slice (some ⟨W2.heap.size, 0, none⟩) 1 1]).run Try.prog (W2.alloc (.cells #[.int .i64 (rA n p q o wt j), .int .i64 (rB n p q o j), .int .i64 (rC n p q o wt j)] 39)) = .ok (.slice (some ⟨g', 0, none⟩) (j + 1) cap') w3 ∧ w3.cell? ⟨s + 3, 0, none⟩ = some v ∧ w3.frozen? ⟨s + 3, 0, none⟩ = false ∧
        Hid (KeepsOthers W (w3.setCell ⟨s + 3, 0, none⟩ (.slice (some ⟨g', 0, none⟩) (j + 1) cap')) ∧ Coll w0 s A n 27 E O me ce m co wt (labK p q o) (rA n p q o wt) (rB n p q o) (rC n p q o wt) j (j + 1) (w3.setCell ⟨s + 3, 0, none⟩ (.slice (some ⟨g', 0, none⟩) (j + 1) cap'))) from fun W2 hO => by
      obtain ⟨g1, _, _, c3, hrow2, hp2⟩ := hput W2 hO
      obtain ⟨v', w3, hrun, hown', hgrow, _, hat⟩ := run_append_own_at (P := Try.prog) (w := W2.alloc (.cells #[.int .i64 (rA n p q o wt j), .int .i64 (rB n p q o j), .int .i64 (rC n p q o wt j)] 39)) s 32 32 39 i0 (.agg #[.int .i64 0, .int .i64 0, .int .i64 0]) 3 24 Try.underlying32 hi hz0 hz1 hz2 rfl (by decide) v j (edgesL (rA n p q o wt) (rB n p q o) (rC n p q o wt) j) (hrow2.alloc _) ⟨W2.heap.size, 0, none⟩ 1 1 [.int .i64 (rA n p q o wt j), .int .i64 (rB n p q o j), .int .i64 (rC n p q o wt j)] rfl (cell_three_new _ _ _ _ _) (by simp [Value.oneCell']) (by unfold maxLen; omega) (by omega) (by simp; omega)
      obtain ⟨d1, d2, d3, d4⟩ := hp2 w3 v' _ hown' hgrow hat
      obtain ⟨g', cap', rfl⟩ := ownsRow_succ hown'
      exact ⟨c3, Lib.cell?_alloc_some _ c3, g', cap', w3, hrun, d1, d2, Lib.hid ⟨KeepsOthers.trans (KeepsOthers.of_only hO) d4, d3⟩⟩)
    clear hput hc
    gi_wp2
    refine wpIn_region_any hmix ?_
    change wpAnyIn _ _ _ _ _ _ _ _ _ (World.drew _)
    -- REGION
    refine wpAnyIn_ready (rs := [0, 1, 2]) (by kernel_rfl) (by simp) ?_
    refine AllReadyIn.cons rfl (fun K hK => ?_) ?_
    · go_simp
      refine hK _ _ ?_
      clear hK K
      refine wpAnyIn_ready (rs := [1, 2]) (by kernel_rfl) (by simp) ?_
      refine AllReadyIn.cons rfl (fun K hK => ?_) ?_
      · go_simp
        refine hK _ _ ?_
        clear hK K
        refine wpAnyIn_ready (rs := [2]) (by kernel_rfl) (by simp) ?_
        refine AllReadyIn.cons rfl (fun K hK => ?_) AllReadyIn.nil
        go_simp
        refine hK _ _ ?_
        clear hK K
        refine wpAnyIn_ready (rs := [3]) (by kernel_rfl) (by simp) ?_
        refine AllReadyIn.cons rfl (fun K hK => ?_) AllReadyIn.nil
        go_simp
        refine ⟨trivial, (CallsIn.inRound l (callsIn_wide.2 (HG.out _ ((Only.refl [] W).drewN 1)))).mono ?_⟩
        rintro e W2 ⟨rfl, hO⟩
        obtain ⟨c3, c4, g2, cap2, w3, hrun, d1, d2, HX⟩ := HR.out W2 (((Only.refl [] W).drewN 1).trans hO)
        clear hO
        refine hK _ _ ?_
        clear hK K
        refine wpAnyIn_ready (rs := [4]) (by kernel_rfl) (by simp) ?_
        refine AllReadyIn.cons rfl (fun K hK => ?_) AllReadyIn.nil
        go_simp
        refine hK _ _ ?_
        clear hK K
        refine wpAnyIn_ready (rs := [5]) (by kernel_rfl) (by simp) ?_
        refine AllReadyIn.cons rfl (fun K hK => ?_) AllReadyIn.nil
        refine stepIn_append rfl (.tmp 19) (.tmp 23) 32 rfl hrun ?_
        refine hK _ _ ?_
        clear hK K
        simp only [Act.put, List.setIfInBounds_toArray, List.set_cons_zero, List.set_cons_succ]
        refine wpAnyIn_ready (rs := [6]) (by kernel_rfl) (by simp) ?_
        refine AllReadyIn.cons rfl (fun K hK => ?_) AllReadyIn.nil
        go_simp
        refine hK _ _ ?_
        clear hK K
        refine wpAnyIn_done (by kernel_rfl) ?_ _
        exact HX.out
      refine AllReadyIn.cons rfl (fun K hK => ?_) AllReadyIn.nil
      go_simp
      refine hK _ _ ?_
      clear hK K
      refine wpAnyIn_ready (rs := [1]) (by kernel_rfl) (by simp) ?_
      refine AllReadyIn.cons rfl (fun K hK => ?_) AllReadyIn.nil
      go_simp
      refine hK _ _ ?_
      clear hK K
      refine wpAnyIn_ready (rs := [3]) (by kernel_rfl) (by simp) ?_
      refine AllReadyIn.cons rfl (fun K hK => ?_) AllReadyIn.nil
      go_simp
      refine ⟨trivial, (CallsIn.inRound l (callsIn_wide.2 (HG.out _ ((Only.refl [] W).drewN 1)))).mono ?_⟩
      rintro e W2 ⟨rfl, hO⟩
      obtain ⟨c3, c4, g2, cap2, w3, hrun, d1, d2, HX⟩ := HR.out W2 (((Only.refl [] W).drewN 1).trans hO)
      clear hO
      refine hK _ _ ?_
      clear hK K
      refine wpAnyIn_ready (rs := [4]) (by kernel_rfl) (by simp) ?_
      refine AllReadyIn.cons rfl (fun K hK => ?_) AllReadyIn.nil
      go_simp
      refine hK _ _ ?_
      clear hK K
      refine wpAnyIn_ready (rs := [5]) (by kernel_rfl) (by simp) ?_
      refine AllReadyIn.cons rfl (fun K hK => ?_) AllReadyIn.nil
      refine stepIn_append rfl (.tmp 19) (.tmp 23) 32 rfl hrun ?_
      refine hK _ _ ?_
      clear hK K
      simp only [Act.put, List.setIfInBounds_toArray, List.set_cons_zero, List.set_cons_succ]
      refine wpAnyIn_ready (rs := [6]) (by kernel_rfl) (by simp) ?_
      refine AllReadyIn.cons rfl (fun K hK => ?_) AllReadyIn.nil
      go_simp
      refine hK _ _ ?_
      clear hK K
      refine wpAnyIn_done (by kernel_rfl) ?_ _
      exact HX.out
    refine AllReadyIn.cons rfl (fun K hK => ?_) ?_
    · go_simp
      refine hK _ _ ?_
      clear hK K
      refine wpAnyIn_ready (rs := [0, 2]) (by kernel_rfl) (by simp) ?_
      refine AllReadyIn.cons rfl (fun K hK => ?_) ?_
      · go_simp
        refine hK _ _ ?_
        clear hK K
        refine wpAnyIn_ready (rs := [2]) (by kernel_rfl) (by simp) ?_
        refine AllReadyIn.cons rfl (fun K hK => ?_) AllReadyIn.nil
        go_simp
        refine hK _ _ ?_
        clear hK K
        refine wpAnyIn_ready (rs := [3]) (by kernel_rfl) (by simp) ?_
        refine AllReadyIn.cons rfl (fun K hK => ?_) AllReadyIn.nil
        go_simp
        refine ⟨trivial, (CallsIn.inRound l (callsIn_wide.2 (HG.out _ ((Only.refl [] W).drewN 1)))).mono ?_⟩
        rintro e W2 ⟨rfl, hO⟩
        obtain ⟨c3, c4, g2, cap2, w3, hrun, d1, d2, HX⟩ := HR.out W2 (((Only.refl [] W).drewN 1).trans hO)
        clear hO
        refine hK _ _ ?_
        clear hK K
        refine wpAnyIn_ready (rs := [4]) (by kernel_rfl) (by simp) ?_
        refine AllReadyIn.cons rfl (fun K hK => ?_) AllReadyIn.nil
        go_simp
        refine hK _ _ ?_
        clear hK K
        refine wpAnyIn_ready (rs := [5]) (by kernel_rfl) (by simp) ?_
        refine AllReadyIn.cons rfl (fun K hK => ?_) AllReadyIn.nil
        refine stepIn_append rfl (.tmp 19) (.tmp 23) 32 rfl hrun ?_
        refine hK _ _ ?_
        clear hK K
        simp only [Act.put, List.setIfInBounds_toArray, List.set_cons_zero, List.set_cons_succ]
        refine wpAnyIn_ready (rs := [6]) (by kernel_rfl) (by simp) ?_
        refine AllReadyIn.cons rfl (fun K hK => ?_) AllReadyIn.nil
        go_simp
        refine hK _ _ ?_
        clear hK K
        refine wpAnyIn_done (by kernel_rfl) ?_ _
        exact HX.out
      refine AllReadyIn.cons rfl (fun K hK => ?_) AllReadyIn.nil
      go_simp
      refine hK _ _ ?_
      clear hK K
      refine wpAnyIn_ready (rs := [0, 3]) (by kernel_rfl) (by simp) ?_
      refine AllReadyIn.cons rfl (fun K hK => ?_) ?_
      · go_simp
        refine hK _ _ ?_
        clear hK K
        refine wpAnyIn_ready (rs := [3]) (by kernel_rfl) (by simp) ?_
        refine AllReadyIn.cons rfl (fun K hK => ?_) AllReadyIn.nil
        go_simp
        refine ⟨trivial, (CallsIn.inRound l (callsIn_wide.2 (HG.out _ ((Only.refl [] W).drewN 1)))).mono ?_⟩
        rintro e W2 ⟨rfl, hO⟩
        obtain ⟨c3, c4, g2, cap2, w3, hrun, d1, d2, HX⟩ := HR.out W2 (((Only.refl [] W).drewN 1).trans hO)
        clear hO
        refine hK _ _ ?_
        clear hK K
        refine wpAnyIn_ready (rs := [4]) (by kernel_rfl) (by simp) ?_
        refine AllReadyIn.cons rfl (fun K hK => ?_) AllReadyIn.nil
        go_simp
        refine hK _ _ ?_
        clear hK K
        refine wpAnyIn_ready (rs := [5]) (by kernel_rfl) (by simp) ?_
        refine AllReadyIn.cons rfl (fun K hK => ?_) AllReadyIn.nil
        refine stepIn_append rfl (.tmp 19) (.tmp 23) 32 rfl hrun ?_
        refine hK _ _ ?_
        clear hK K
        simp only [Act.put, List.setIfInBounds_toArray, List.set_cons_zero, List.set_cons_succ]
        refine wpAnyIn_ready (rs := [6]) (by kernel_rfl) (by simp) ?_
        refine AllReadyIn.cons rfl (fun K hK => ?_) AllReadyIn.nil
        go_simp
        refine hK _ _ ?_
        clear hK K
        refine wpAnyIn_done (by kernel_rfl) ?_ _
        exact HX.out
      refine AllReadyIn.cons rfl (fun K hK => ?_) AllReadyIn.nil
      go_simp
      refine ⟨trivial, (CallsIn.inRound l (callsIn_wide.2 (HG.out _ ((Only.refl [] W).drewN 1)))).mono ?_⟩
      rintro e W2 ⟨rfl, hO⟩
      obtain ⟨c3, c4, g2, cap2, w3, hrun, d1, d2, HX⟩ := HR.out W2 (((Only.refl [] W).drewN 1).trans hO)
      clear hO
      refine hK _ _ ?_
      clear hK K
      refine wpAnyIn_ready (rs := [0, 4]) (by kernel_rfl) (by simp) ?_
      refine AllReadyIn.cons rfl (fun K hK => ?_) ?_
      · go_simp
        refine hK _ _ ?_
        clear hK K
        refine wpAnyIn_ready (rs := [4]) (by kernel_rfl) (by simp) ?_
        refine AllReadyIn.cons rfl (fun K hK => ?_) AllReadyIn.nil
        go_simp
        refine hK _ _ ?_
        clear hK K
        refine wpAnyIn_ready (rs := [5]) (by kernel_rfl) (by simp) ?_
        refine AllReadyIn.cons rfl (fun K hK => ?_) AllReadyIn.nil
        refine stepIn_append rfl (.tmp 19) (.tmp 23) 32 rfl hrun ?_
        refine hK _ _ ?_
        clear hK K
        simp only [Act.put, List.setIfInBounds_toArray, List.set_cons_zero, List.set_cons_succ]
        refine wpAnyIn_ready (rs := [6]) (by kernel_rfl) (by simp) ?_
        refine AllReadyIn.cons rfl (fun K hK => ?_) AllReadyIn.nil
        go_simp
        refine hK _ _ ?_
        clear hK K
        refine wpAnyIn_done (by kernel_rfl) ?_ _
        exact HX.out
      refine AllReadyIn.cons rfl (fun K hK => ?_) AllReadyIn.nil
      go_simp
      refine hK _ _ ?_
      clear hK K
      refine wpAnyIn_ready (rs := [0]) (by kernel_rfl) (by simp) ?_
      refine AllReadyIn.cons rfl (fun K hK => ?_) AllReadyIn.nil
      go_simp
      refine hK _ _ ?_
      clear hK K
      refine wpAnyIn_ready (rs := [5]) (by kernel_rfl) (by simp) ?_
      refine AllReadyIn.cons rfl (fun K hK => ?_) AllReadyIn.nil
      refine stepIn_append rfl (.tmp 19) (.tmp 23) 32 rfl hrun ?_
      refine hK _ _ ?_
      clear hK K
      simp only [Act.put, List.setIfInBounds_toArray, List.set_cons_zero, List.set_cons_succ]
      refine wpAnyIn_ready (rs := [6]) (by kernel_rfl) (by simp) ?_
      refine AllReadyIn.cons rfl (fun K hK => ?_) AllReadyIn.nil
      go_simp
      refine hK _ _ ?_
      clear hK K
      refine wpAnyIn_done (by kernel_rfl) ?_ _
      exact HX.out
    refine AllReadyIn.cons rfl (fun K hK => ?_) AllReadyIn.nil
    go_simp
    refine hK _ _ ?_
    clear hK K
    refine wpAnyIn_ready (rs := [0, 1]) (by kernel_rfl) (by simp) ?_
    refine AllReadyIn.cons rfl (fun K hK => ?_) ?_
    · go_simp
      refine hK _ _ ?_
      clear hK K
      refine wpAnyIn_ready (rs := [1]) (by kernel_rfl) (by simp) ?_
      refine AllReadyIn.cons rfl (fun K hK => ?_) AllReadyIn.nil
      go_simp
      refine hK _ _ ?_
      clear hK K
      refine wpAnyIn_ready (rs := [3]) (by kernel_rfl) (by simp) ?_
      refine AllReadyIn.cons rfl (fun K hK => ?_) AllReadyIn.nil
      go_simp
      refine ⟨trivial, (CallsIn.inRound l (callsIn_wide.2 (HG.out _ ((Only.refl [] W).drewN 1)))).mono ?_⟩
      rintro e W2 ⟨rfl, hO⟩
      obtain ⟨c3, c4, g2, cap2, w3, hrun, d1, d2, HX⟩ := HR.out W2 (((Only.refl [] W).drewN 1).trans hO)
      clear hO
      refine hK _ _ ?_
      clear hK K
      refine wpAnyIn_ready (rs := [4]) (by kernel_rfl) (by simp) ?_
      refine AllReadyIn.cons rfl (fun K hK => ?_) AllReadyIn.nil
      go_simp
      refine hK _ _ ?_
      clear hK K
      refine wpAnyIn_ready (rs := [5]) (by kernel_rfl) (by simp) ?_
      refine AllReadyIn.cons rfl (fun K hK => ?_) AllReadyIn.nil
      refine stepIn_append rfl (.tmp 19) (.tmp 23) 32 rfl hrun ?_
      refine hK _ _ ?_
      clear hK K
      simp only [Act.put, List.setIfInBounds_toArray, List.set_cons_zero, List.set_cons_succ]
      refine wpAnyIn_ready (rs := [6]) (by kernel_rfl) (by simp) ?_
      refine AllReadyIn.cons rfl (fun K hK => ?_) AllReadyIn.nil
      go_simp
      refine hK _ _ ?_
      clear hK K
      refine wpAnyIn_done (by kernel_rfl) ?_ _
      exact HX.out
    refine AllReadyIn.cons rfl (fun K hK => ?_) AllReadyIn.nil
    go_simp
    refine hK _ _ ?_
    clear hK K
    refine wpAnyIn_ready (rs := [0, 3]) (by kernel_rfl) (by simp) ?_
    refine AllReadyIn.cons rfl (fun K hK => ?_) ?_
    · go_simp
      refine hK _ _ ?_
      clear hK K
      refine wpAnyIn_ready (rs := [3]) (by kernel_rfl) (by simp) ?_
      refine AllReadyIn.cons rfl (fun K hK => ?_) AllReadyIn.nil
      go_simp
      refine ⟨trivial, (CallsIn.inRound l (callsIn_wide.2 (HG.out _ ((Only.refl [] W).drewN 1)))).mono ?_⟩
      rintro e W2 ⟨rfl, hO⟩
      obtain ⟨c3, c4, g2, cap2, w3, hrun, d1, d2, HX⟩ := HR.out W2 (((Only.refl [] W).drewN 1).trans hO)
      clear hO
      refine hK _ _ ?_
      clear hK K
      refine wpAnyIn_ready (rs := [4]) (by kernel_rfl) (by simp) ?_
      refine AllReadyIn.cons rfl (fun K hK => ?_) AllReadyIn.nil
      go_simp
      refine hK _ _ ?_
      clear hK K
      refine wpAnyIn_ready (rs := [5]) (by kernel_rfl) (by simp) ?_
      refine AllReadyIn.cons rfl (fun K hK => ?_) AllReadyIn.nil
      refine stepIn_append rfl (.tmp 19) (.tmp 23) 32 rfl hrun ?_
      refine hK _ _ ?_
      clear hK K
      simp only [Act.put, List.setIfInBounds_toArray, List.set_cons_zero, List.set_cons_succ]
      refine wpAnyIn_ready (rs := [6]) (by kernel_rfl) (by simp) ?_
      refine AllReadyIn.cons rfl (fun K hK => ?_) AllReadyIn.nil
      go_simp
      refine hK _ _ ?_
      clear hK K
      refine wpAnyIn_done (by kernel_rfl) ?_ _
      exact HX.out
    refine AllReadyIn.cons rfl (fun K hK => ?_) AllReadyIn.nil
    go_simp
    refine ⟨trivial, (CallsIn.inRound l (callsIn_wide.2 (HG.out _ ((Only.refl [] W).drewN 1)))).mono ?_⟩
    rintro e W2 ⟨rfl, hO⟩
    obtain ⟨c3, c4, g2, cap2, w3, hrun, d1, d2, HX⟩ := HR.out W2 (((Only.refl [] W).drewN 1).trans hO)
    clear hO
    refine hK _ _ ?_
    clear hK K
    refine wpAnyIn_ready (rs := [0, 4]) (by kernel_rfl) (by simp) ?_
    refine AllReadyIn.cons rfl (fun K hK => ?_) ?_
    · go_simp
      refine hK _ _ ?_
      clear hK K
      refine wpAnyIn_ready (rs := [4]) (by kernel_rfl) (by simp) ?_
      refine AllReadyIn.cons rfl (fun K hK => ?_) AllReadyIn.nil
      go_simp
      refine hK _ _ ?_
      clear hK K
      refine wpAnyIn_ready (rs := [5]) (by kernel_rfl) (by simp) ?_
      refine AllReadyIn.cons rfl (fun K hK => ?_) AllReadyIn.nil
      refine stepIn_append rfl (.tmp 19) (.tmp 23) 32 rfl hrun ?_
      refine hK _ _ ?_
      clear hK K
      simp only [Act.put, List.setIfInBounds_toArray, List.set_cons_zero, List.set_cons_succ]
      refine wpAnyIn_ready (rs := [6]) (by kernel_rfl) (by simp) ?_
      refine AllReadyIn.cons rfl (fun K hK => ?_) AllReadyIn.nil
      go_simp
      refine hK _ _ ?_
      clear hK K
      refine wpAnyIn_done (by kernel_rfl) ?_ _
      exact HX.out
    refine AllReadyIn.cons rfl (fun K hK => ?_) AllReadyIn.nil
    go_simp
    refine hK _ _ ?_
    clear hK K
    refine wpAnyIn_ready (rs := [0]) (by kernel_rfl) (by simp) ?_
    refine AllReadyIn.cons rfl (fun K hK => ?_) AllReadyIn.nil
    go_simp
    refine hK _ _ ?_
    clear hK K
    refine wpAnyIn_ready (rs := [5]) (by kernel_rfl) (by simp) ?_
    refine AllReadyIn.cons rfl (fun K hK => ?_) AllReadyIn.nil
    refine stepIn_append rfl (.tmp 19) (.tmp 23) 32 rfl hrun ?_
    refine hK _ _ ?_
    clear hK K
    simp only [Act.put, List.setIfInBounds_toArray, List.set_cons_zero, List.set_cons_succ]
    refine wpAnyIn_ready (rs := [6]) (by kernel_rfl) (by simp) ?_
    refine AllReadyIn.cons rfl (fun K hK => ?_) AllReadyIn.nil
    go_simp
    refine hK _ _ ?_
    clear hK K
    refine wpAnyIn_done (by kernel_rfl) ?_ _
    exact HX.out
    -- END
  case done =>
    rintro D W hD ⟨F', v, h1, _, _, h4, h5, _⟩ hK
    have c1 := h4.cell
    have HE := Lib.hid (And.intro (ownsRow_putObj h5 (.deferred none) hK rfl) ((KeepC.put (b := w0.heap.size) (.deferred none) (by omega) hK rfl).onto h1.only (Nat.le_refl _)))
    clear h1 h4 h5
    gi_wp2
    refine ⟨by simp, .inl ⟨_, _, rfl, run_takeDeferred hK, ?_⟩⟩
    refine ⟨_, results_tmp rfl _ _ _, _, rfl, ?_, HE.out.2⟩
    rw [HS.out]
    exact HE.out.1

end Go.Proofs.Ytipgbbhgmoehfaa

/-
  sweep: plainRows, Rows.
-/
namespace Go.Proofs.Ytipgbbhgmoehfaa
open Go.RowKit
set_option linter.unusedSimpArgs false
set_option linter.unusedSectionVars false

theorem owns_base {W : World} {b b' e size n : Nat} {v : Value} {xs : List Value} (h : W.ownsRow b e size v n xs) (hb : b' ≤ b) : W.ownsRow b' e size v n xs := by
  obtain ⟨hl, h0 | ⟨g, cap, cur, hv, hg, rest⟩⟩ := h
  · exact ⟨hl, .inl h0⟩
  · exact ⟨hl, .inr ⟨g, cap, cur, hv, Nat.le_trans hb hg, rest⟩⟩
def one : Nat → Nat := fun _ => 1
/-- The rows of an order, all weights 1. -/
def rowsL (n : Nat) (p q o : Nat → Nat) (k : Nat) : List Value := edgesL (rA n p q o one) (rB n p q o) (rC n p q o one) k
def RowsAt (w w' : World) (n : Nat) (p q o : Nat → Nat) (m : Nat) (vo : Value) : Prop := w'.ownsRow w.heap.size 39 3 vo (m + 1) (rowsL n p q o (m + 1)) ∧ Only [] w w'
set_option maxRecDepth 100000 in
theorem SPlainRows {w : World} {n me m ce co : Nat} {E O : Option Addr} {u v x fo : Nat → Int} {p q o : Nat → Nat} (hP : Picked w n me m E O u v x fo p q o) (hm : m ≤ 65536) (hn : n ≤ 65536) :
    Calls Try.prog 34 #[.int .i64 n, .slice E me ce, .slice O m co] w fun e w' => ∃ vo, e = .returned (.tuple #[vo, .int .i64 0]) ∧ RowsAt w w' n p q o m vo := by
  have HP := Lib.hid hP
  clear hP
  have CE := Lib.hid (TEven n hn w)
  go_enter Try.func34, Try.ntmps34
  go_wp2_with fail
  refine CE.out.mono ?_
  rintro e w1 ⟨F, A, rfl, ht, hF, hO⟩
  have CC := Lib.hid (callsIn_wide.1 (collect_in (ce := ce) (co := co) w A n E O me m u v x fo p q o one F w1 (OwnTal.made (Only.refl [] w) ht hF hO) HP.out hm (fun W F lab h => SPlain h)))
  have HO := Lib.hid hO
  clear ht hF hO CE
  go_wp2_with fail
  refine CC.out.mono ?_
  rintro e w2 ⟨vo, rfl, hr, hO2⟩
  have HR := Lib.hid (show RowsAt w w2 n p q o m vo from ⟨owns_base hr HO.out.size, hO2⟩)
  clear hr hO2 CC
  go_wp2_with fail
  go_ret2
  exact ⟨vo, rfl, HR.out⟩

/-- What Rows returns. -/
def RowsPost (n : Int) (m : Nat) (u v fo : Nat → Int) (w : World) (k : Int) (d : Bool) (e : Ending) (w' : World) : Prop :=
  (k ≠ 0 ∧ e = .returned (.tuple #[.slice none 0 0, .int .i64 k]) ∧ Only [] w w') ∨ (k = 0 ∧ d = false ∧ e = .returned (.tuple #[.slice none 0 0, .int .i64 2]) ∧ Only [] w w') ∨
    (k = 0 ∧ d = true ∧ ∃ vo, e = .returned (.tuple #[vo, .int .i64 0]) ∧ RowsAt w w' n.toNat (fun j => (u j).toNat) (fun j => (v j).toNat) (fun j => (fo j).toNat) m vo)
theorem Picked.of {w : World} {n : Int} {me m : Nat} {E O : Option Addr} {u v x fo : Nat → Int} (hE : EdgesIn w E me u v x) (hO : IntsIn w .i64 O m fo) (hk : GCode n me u v 0) (hd : Ordered me m fo) :
    Picked w n.toNat me m E O u v x fo (fun j => (u j).toNat) (fun j => (v j).toNat) (fun j => (fo j).toNat) := by
  obtain ⟨h1, h2⟩ := gcode_ok hk
  refine ⟨hE, hO, fun j hj => ?_, fun j hj => ?_⟩
  · have := h2 j hj
    unfold GoodE InE at this
    omega
  · have := hd.1 j hj
    omega
set_option maxRecDepth 100000 in
set_option maxHeartbeats 2000000 in
theorem SRows_any (n : Int) (E O : Option Addr) (me ce m co : Nat) (u v x fo : Nat → Int) (w : World) (hE : EdgesIn w E me u v x) (hO : IntsIn w .i64 O m fo) (k : Int) (hk : GCode n me u v k) (d : Bool) (hd : d = true ↔ Ordered me m fo) (hm : m ≤ 65536) :
    Calls Try.prog 9 #[.int .i64 n, .slice E me ce, .slice O m co] w (RowsPost n m u v fo w k d) := by
  have CG := Lib.hid (GNew_any n E me ce u v x w hE k hk)
  have HE := Lib.hid hE
  have HI := Lib.hid hO
  have HK := Lib.hid hk
  have HD := Lib.hid hd
  clear hE hO hk hd
  go_enter Try.func9, Try.ntmps9
  go_wp2_with fail
  refine CG.out.mono ?_
  rintro e w1 ⟨hO, ⟨h0, rfl⟩ | ⟨rfl, G, S, L, A', c', fs, rfl, _⟩⟩
  · have HO := Lib.hid hO
    clear hO CG
    go_wp2_with fail
    go_ret2
    exact .inl ⟨h0, rfl, HO.out⟩
  · have HO := Lib.hid hO
    have CI := Lib.hid (isOrder_any me O m co fo w1 (HI.out.only hO) d HD.out)
    clear hO CG
    go_wp2_with fail
    refine CI.out.mono ?_
    rintro e w2 ⟨rfl, hO2⟩
    have HO2 := Lib.hid (HO.out.trans hO2)
    clear hO2 CI
    cases d with
    | false =>
      go_wp2_with fail
      go_ret2
      exact .inr (.inl ⟨rfl, rfl, rfl, HO2.out⟩)
    | true =>
      have HP := Lib.hid ((Picked.of HE.out HI.out HK.out (HD.out.1 rfl)).only HO2.out)
      have hn := (gcode_ok HK.out).1
      have CP := Lib.hid (SPlainRows (ce := ce) (co := co) HP.out hm (show n.toNat ≤ 65536 by omega))
      have hN : ((n.toNat : Nat) : Int) = n := by omega
      rw [hN] at CP
      clear hN hn
      go_wp2_with fail
      refine CP.out.mono ?_
      rintro e w3 ⟨vo, rfl, hr⟩
      have HR := Lib.hid (show RowsAt w w3 n.toNat (fun j => (u j).toNat) (fun j => (v j).toNat) (fun j => (fo j).toNat) m vo from ⟨owns_base hr.1 HO2.out.size, HO2.out.trans hr.2⟩)
      clear hr CP
      go_wp2_with fail
      go_ret2
      exact .inr (.inr ⟨rfl, rfl, vo, rfl, HR.out⟩)

end Go.Proofs.Ytipgbbhgmoehfaa
