/-
  Rows of pairs: how they read; same; the reads of a tally.
-/
import Derived.Test.YtbafacdknaopjaaF2
namespace Go.Proofs.Ytbafacdknaopjaa
open Go.RowKit
set_option linter.unusedSimpArgs false

/-- A slice of items, as it lies in memory. -/
def Reads (W : World) (v : Value) (L : Items) : Prop := ∃ A c, v = .slice A L.length c ∧ L.length ≤ c ∧ c ≤ maxLen ∧
  (0 < L.length → ∃ g cs, A = some ⟨g, 0, none⟩ ∧ W.heap[g]? = some (.cells cs 48 (0, 0)) ∧ ∀ (i : Nat) (p : Int × Nat), L[i]? = some p → cs[i * 2]? = some (.int .i64 p.1) ∧ cs[i * 2 + 1]? = some (.int .i64 p.2))
theorem cellsIt_get (L : Items) (i : Nat) (p : Int × Nat) (h : L[i]? = some p) : (cellsIt L)[i * 2]? = some (.int .i64 p.1) ∧ (cellsIt L)[i * 2 + 1]? = some (.int .i64 p.2) := by
  induction L generalizing i with
  | nil => simp at h
  | cons q L ih =>
    cases i with
    | zero =>
      simp at h
      subst h
      exact ⟨rfl, rfl⟩
    | succ i =>
      have := ih i (by simpa using h)
      rw [show (i + 1) * 2 = i * 2 + 1 + 1 by omega]
      simpa [cellsIt] using this
theorem Reads.of_row {W : World} {base : Nat} {v : Value} {L : Items} (h : W.ownsRow base 48 2 v L.length (cellsIt L)) : Reads W v L := by
  rcases h.2 with ⟨rfl, h0⟩ | ⟨g, cap, cur, rfl, _, hg, hn, hc, _, ht⟩
  · obtain rfl : L = [] := List.length_eq_zero_iff.1 h0
    exact ⟨none, 0, rfl, Nat.le_refl _, by unfold maxLen; omega, fun h => absurd h (by simp)⟩
  · refine ⟨_, cap, rfl, hn, hc, fun _ => ⟨g, cur, rfl, hg, fun i p hp => ?_⟩⟩
    obtain ⟨h1, h2⟩ := cellsIt_get L i p hp
    rw [← ht] at h1 h2
    rw [List.getElem?_take] at h1 h2
    split at h1
    · split at h2
      · exact ⟨by simpa using h1, by simpa using h2⟩
      · cases h2
    · cases h1
theorem Reads.same {W W' : World} {v : Value} {L : Items} (h : Reads W v L) (hk : ∀ (k : Nat) (cs : Array Value), W.heap[k]? = some (.cells cs 48 (0, 0)) → W'.heap[k]? = W.heap[k]?) : Reads W' v L := by
  obtain ⟨A, c, rfl, h1, h2, h3⟩ := h
  refine ⟨A, c, rfl, h1, h2, fun h0 => ?_⟩
  obtain ⟨g, cs, hA, hg, hc⟩ := h3 h0
  exact ⟨g, cs, hA, (hk g cs hg).trans hg, hc⟩
theorem Reads.keep {W W' : World} {v : Value} {L : Items} (h : Reads W v L) (hO : Only [] W W') : Reads W' v L := h.same fun k cs hk => hO.block k (heap_lt hk) (by simp)
theorem node_type {W : World} {k : Nat} {t : T} (h : t.At W) (hk : k ∈ t.blocks) : ∃ cs, W.heap[k]? = some (.cells cs 194 (0, 0)) := by
  induction t with
  | leaf => simp [T.blocks] at hk
  | node g l x u r ihl ihr =>
    simp only [T.blocks, List.mem_cons, List.mem_append] at hk
    rcases hk with rfl | hk | hk
    · exact ⟨_, h.1⟩
    · exact ihl h.2.1 hk
    · exact ihr h.2.2 hk
theorem block_type {W : World} {B k : Nat} {t : T} (h : Bag W B t) (hk : k ∈ B :: t.blocks) : ∃ cs, W.heap[k]? = some (.cells cs 190 (0, 0)) ∨ W.heap[k]? = some (.cells cs 194 (0, 0)) := by
  rcases List.mem_cons.1 hk with rfl | hk
  · exact ⟨_, .inl h.head⟩
  · obtain ⟨cs, hc⟩ := node_type h.tree hk
    exact ⟨cs, .inr hc⟩
theorem Reads.became {W W' : World} {v : Value} {L L' : Items} {B : Nat} {t t' : T} (h : Reads W v L) (hB : Bag W B t) (hb : Became W W' B t t' L') : Reads W' v L := h.same fun k cs hk => hb.only.block k (heap_lt hk) fun hm => by
  obtain ⟨cs', h1 | h1⟩ := block_type hB hm
  · rw [hk] at h1; cases h1
  · rw [hk] at h1; cases h1
theorem Reads.take {W : World} {A : Option Addr} {c : Nat} {L : Items} (h : Reads W (.slice A L.length c) L) (m : Nat) (hm : m ≤ L.length) : Reads W (.slice A m c) (L.take m) := by
  obtain ⟨A', c', he, h1, h2, h3⟩ := h
  cases he
  refine ⟨A, c, by rw [List.length_take, Nat.min_eq_left hm], by rw [List.length_take]; omega, h2, fun h0 => ?_⟩
  rw [List.length_take] at h0
  obtain ⟨g, cs, hA, hg, hc⟩ := h3 (by omega)
  refine ⟨g, cs, hA, hg, fun i p hp => hc i p ?_⟩
  rw [List.getElem?_take] at hp
  split at hp
  · exact hp
  · cases hp
theorem Reads.cells {W : World} {A : Option Addr} {c n : Nat} {L : Items} (h : Reads W (.slice A n c) L) {i : Nat} {p : Int × Nat} (hp : L[i]? = some p) : ∃ g, A = some ⟨g, 0, none⟩ ∧ W.cell? ⟨g, i * 2, none⟩ = some (.int .i64 p.1) ∧ W.cell? ⟨g, i * 2 + 1, none⟩ = some (.int .i64 p.2) := by
  obtain ⟨A', c', he, h1, h2, h3⟩ := h
  cases he
  obtain ⟨g, cs, hA, hg, hc⟩ := h3 (by have := (List.getElem?_eq_some_iff.1 hp).1; omega)
  exact ⟨g, hA, cell_of_heap hg (hc i p hp).1, cell_of_heap hg (hc i p hp).2⟩

theorem only_of_below {w w' : World} (h : Below w.heap.size w w') : Only [] w w' := ⟨h.os, h.tape, h.output, h.size, fun k hk _ => h.block k hk⟩
theorem pair_neq (x1 u1 x2 u2 : Int) (w : World) : (binOp .neq 48 (.agg #[.int .i64 x1, .int .i64 u1]) (.agg #[.int .i64 x2, .int .i64 u2])).run Try.prog w = .ok (.bool (!decide (x1 = x2 ∧ u1 = u2))) w := by
  have y3 := Try.underlying3
  have y2 := Try.underlying2
  have hS : Try.prog.underlying 48 = some (.struct (Try.prog.fieldsOf 48)) := by kernel_rfl
  have hp : Try.prog.stoodInHeld 48 = false := by kernel_rfl
  rw [run_neq_struct, show (10000 : Nat) = 9999 + 1 from rfl, run_equalIn_agg w 9999 48 _ _ hS hp]
  simp only [Program.fieldsOf, Try.underlying48]
  go_simp
  by_cases h1 : x1 = x2 <;> by_cases h2 : u1 = u2 <;> simp [h1, h2]

set_option maxRecDepth 100000 in
set_option maxHeartbeats 2000000 in
theorem same_any (v1 v2 : Value) (L1 L2 : Items) (w : World) (h1 : Reads w v1 L1) (h2 : Reads w v2 L2) (hn : L1.length ≤ 2147483647) :
    Calls Try.prog 38 #[v1, v2] w fun e w' => e = .returned (.bool (decide (L1 = L2))) ∧ ∃ n, w' = w.drewN n := by
  obtain ⟨A1, c1, rfl, _⟩ := id h1
  obtain ⟨A2, c2, rfl, _⟩ := id h2
  have H1 := Lib.hid h1
  have H2 := Lib.hid h2
  clear h1 h2
  obtain ⟨n1, hn1⟩ : ∃ n1, L1.length = n1 := ⟨_, rfl⟩
  obtain ⟨n2, hn2⟩ : ∃ n2, L2.length = n2 := ⟨_, rfl⟩
  rw [hn1] at hn H1 ⊢
  rw [hn2] at H2 ⊢
  have HL := Lib.hid (And.intro hn1 hn2)
  clear hn1 hn2
  by_cases he : n1 = n2
  · have q : ((n1 : Int) != (n2 : Int)) = false := by simp [he]
    go_enter Try.func38, Try.ntmps38
    go_wp2
    go_loopw [5] (fun i wr => ∃ (k n : Nat), k ≤ n1 ∧ i = .int .i64 k ∧ wr = w.drewN n ∧ Hid (L1.take k = L2.take k)) (fun i _ => n1 - (intOf i).toNat)
    case atStart => exact ⟨0, 0, Nat.zero_le _, rfl, rfl, Lib.hid rfl⟩
    case round =>
      obtain ⟨k, n, hk, rfl, rfl, ht⟩ := hrel
      by_cases hlt : k < n1
      · have hk1 : k < L1.length := by rw [HL.out.1]; exact hlt
        have hk2 : k < L2.length := by rw [HL.out.2, ← he]; exact hlt
        obtain ⟨⟨x1, u1⟩, p1⟩ : ∃ p, L1[k]? = some p := ⟨_, List.getElem?_eq_getElem hk1⟩
        obtain ⟨⟨x2, u2⟩, p2⟩ : ∃ p, L2[k]? = some p := ⟨_, List.getElem?_eq_getElem hk2⟩
        obtain ⟨g1, rfl, a1, a2⟩ := H1.out.cells p1
        obtain ⟨g2, rfl, b1, b2⟩ := H2.out.cells p2
        have l2 : k < n2 := by omega
        simp only at a1 a2 b1 b2
        have HE := Lib.hid (And.intro p1 p2)
        clear p1 p2 q hk1 hk2
        by_cases hq : x1 = x2 ∧ (u1 : Int) = (u2 : Int)
        · have qn := fun W => pair_neq x1 u1 x2 u2 W
          rw [decide_eq_true hq] at qn
          have HQ := Lib.hid hq
          clear hq
          go_wp2
          go_quiet (fail)
          go_wp2
          go_roundw
          case rel =>
            refine ⟨k + 1, n + nq, by omega, by go_num, rfl, Lib.hid ?_⟩
            rw [List.take_add_one, List.take_add_one, ht.out, HE.out.1, HE.out.2, HQ.out.1, Int.ofNat.inj HQ.out.2]
          case measure => simp [intOf]; omega
        · have qn := fun W => pair_neq x1 u1 x2 u2 W
          rw [decide_eq_false hq] at qn
          have HN := Lib.hid (show ¬ L1 = L2 from fun e => by
            subst e
            have := HE.out.1.symm.trans HE.out.2
            simp only [Option.some.injEq, Prod.mk.injEq] at this
            exact hq ⟨this.1, by rw [this.2]⟩)
          clear hq
          go_wp2
          go_quiet (fail)
          go_wp2
          go_ret
          exact ⟨by rw [decide_eq_false HN.out]; rfl, n + nq, World.drewN_drewN _ _ _⟩
      · obtain rfl : k = n1 := by omega
        have HN := Lib.hid (show L1 = L2 by
          have := ht.out
          rwa [List.take_of_length_le (by rw [HL.out.1]; omega), List.take_of_length_le (by rw [HL.out.2]; omega)] at this)
        clear ht
        go_wp2
        go_ret
        exact ⟨by rw [decide_eq_true HN.out]; rfl, n, rfl⟩
  · have q : ((n1 : Int) != (n2 : Int)) = true := by simp; omega
    have HN := Lib.hid (show ¬ L1 = L2 from fun e => by subst e; exact he (HL.out.1.symm.trans HL.out.2))
    clear he
    go_enter Try.func38, Try.ntmps38
    go_wp2
    go_ret
    exact ⟨by rw [decide_eq_false HN.out]; rfl, 0, rfl⟩

theorem Labs.of {W : World} {F : List Nat} {S n : Nat} {lab : Nat → Nat} (h : DsuAt W F S n lab) : Labs n lab := fun _ ha => ⟨h.low ha, h.idem ha⟩
/-- The weight that a tally shows of an element. -/
def wgt (n : Nat) (lab wt : Nat → Nat) (a : Int) : Nat := if 0 ≤ a ∧ a < n then sumOf n lab wt (lab a.toNat) else 0

section
variable {W : World} {F : List Nat} {A n : Nat} {lab wt : Nat → Nat} (h : TalAt W F A n lab wt)
include h
theorem TalAt.labs : Labs n lab := by
  obtain ⟨G, S, B, Fd, t, f, cg, rfl, h⟩ := h
  exact Labs.of h.sets
theorem TalAt.bound : n ≤ 65536 := by
  obtain ⟨G, S, B, Fd, t, f, cg, rfl, h⟩ := h
  exact h.sets.bound
theorem TalAt.low : total n wt ≤ 3037000499 := by
  obtain ⟨G, S, B, Fd, t, f, cg, rfl, h⟩ := h
  exact h.low
theorem TalAt.lt : ∀ k, k ∈ F → k < W.heap.size := by
  obtain ⟨G, S, B, Fd, t, f, cg, rfl, h⟩ := h
  exact h.lt
theorem TalAt.same {W' : World} (hk : ∀ k, k ∈ F → W'.heap[k]? = W.heap[k]?) : TalAt W' F A n lab wt := by
  obtain ⟨G, S, B, Fd, t, f, cg, rfl, h⟩ := h
  exact ⟨G, S, B, Fd, t, f, cg, rfl, h.same hk⟩
theorem TalAt.only {W' : World} {gs : List Nat} (ho : Only gs W W') (hd : ∀ k, k ∈ F → k ∉ gs) : TalAt W' F A n lab wt := h.same fun k hk => ho.block k (h.lt k hk) (hd k hk)
theorem TalAt.keep {W' : World} (ho : Only [] W W') : TalAt W' F A n lab wt := h.only ho fun _ _ m => by simp at m
theorem TWeight (a : Int) : Calls Try.prog 28 #[.pointer (some ⟨A, 0, none⟩), .int .i64 a] W fun e w' => e = .returned (.int .i64 (wgt n lab wt a)) ∧ TalAt w' F A n lab wt ∧ Only F W w' := by
  obtain ⟨G, S, B, Fd, t, f, cg, rfl, h⟩ := h
  by_cases ha : 0 ≤ a ∧ a < n
  · have e : ((a.toNat : Nat) : Int) = a := by omega
    have := tWeight_in h a.toNat (by omega)
    rw [e] at this
    refine this.mono ?_
    rintro e w' ⟨rfl, ht, ho⟩
    exact ⟨by unfold wgt; rw [if_pos ha], ⟨G, S, B, Fd, t, f, cg, rfl, ht⟩, ho.mono fun k hk => by simp [hk]⟩
  · refine (tWeight_out h a ha).mono ?_
    rintro e w' ⟨rfl, rfl⟩
    exact ⟨by unfold wgt; rw [if_neg ha]; rfl, ⟨G, S, B, Fd, t, f, cg, rfl, h⟩, Only.refl _ _⟩
theorem TCount : Calls Try.prog 29 #[.pointer (some ⟨A, 0, none⟩)] W fun e w' => e = .returned (.int .i64 (roots n lab)) ∧ W = w' := by
  obtain ⟨G, S, B, Fd, t, f, cg, rfl, h⟩ := h
  have := tCount_any h
  rw [setsL_len] at this
  exact this
theorem TLargest : Calls Try.prog 31 #[.pointer (some ⟨A, 0, none⟩)] W fun e w' => e = .returned (.int .i64 (largest n lab wt)) ∧ Only [] W w' := by
  obtain ⟨G, S, B, Fd, t, f, cg, rfl, h⟩ := h
  refine (tLargest_any h).mono ?_
  rintro e w' ⟨rfl, k, rfl⟩
  rw [lastV_maxL setsL_nonneg]
  exact ⟨rfl, (Only.refl [] W).drewN k⟩
theorem TSquares : Calls Try.prog 30 #[.pointer (some ⟨A, 0, none⟩)] W fun e w' => e = .returned (.int .i64 (squares n lab wt)) ∧ Only [] W w' := by
  obtain ⟨G, S, B, Fd, t, f, cg, rfl, h⟩ := h
  have := tSquares_any h
  rw [sqL_sets] at this
  exact this
theorem TPairs (m : Nat) : Calls Try.prog 37 #[.pointer (some ⟨A, 0, none⟩), .int .i64 m] W fun e w' => (∃ v, e = .returned v ∧ Reads w' v ((bagOf (setsL n lab wt)).take m)) ∧ Only [] W w' := by
  obtain ⟨G, S, B, Fd, t, f, cg, rfl, h⟩ := h
  have hl : t.items.length ≤ 2147483647 := by rw [← T.ds_items]; exact h.bag.ds
  refine (callsIn_wide.1 (pairs_in (some ⟨A, 0, none⟩) m t.items W h.weigh.over hl)).mono ?_
  rintro e w' ⟨⟨v, rfl, h1⟩, hb⟩
  rw [h.items] at h1
  exact ⟨⟨v, rfl, Reads.of_row h1⟩, only_of_below' hb⟩
end
theorem wgt_le (n : Nat) (lab wt : Nat → Nat) (a : Int) : wgt n lab wt a ≤ total n wt := by
  unfold wgt
  split
  · exact sumOf_le _ _ _ _
  · omega
theorem bagOf_len_le (l : List Int) : (bagOf l).length ≤ l.length := by
  have := len_le_sz (bagOf_pos l)
  rwa [bagOf_sz] at this
end Go.Proofs.Ytbafacdknaopjaa
