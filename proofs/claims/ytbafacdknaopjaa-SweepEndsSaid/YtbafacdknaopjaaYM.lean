import Derived.Deep.RegionHeld3
import Derived.Deep.AppendLies
import Derived.BigQuiet
import Derived.Test.YtbafacdknaopjaaYL
import Derived.Test.YtbafacdknaopjaaYK
import Derived.Test.YtbafacdknaopjaaYI
/-
  The reference of chapter 27: the rows of an order.
-/
namespace Go.Proofs.Ytbafacdknaopjaa
open Go.RowKit
set_option linter.unusedSimpArgs false
set_option linter.unusedSectionVars false

theorem Only.toBelow {w w' : World} (h : Only [] w w') : Below w.heap.size w w' := ⟨h.os, h.tape, h.output, h.size, fun k hk => h.block k hk (by simp)⟩
theorem infoRRow : (Try.prog.info? 164).map (fun i => (i.zero, i.size, i.bytes)) = some (some (.agg #[.int .i64 0, .int .i64 0, .int .i64 0]), 3, 24) := by kernel_rfl
theorem kept_grown {W w3 : World} {n0 e size n k : Nat} {v : Value} {xs : List Value} {tmp : Obj} {cs : Array Value} {T : TypeId} {f : Nat × Nat} (hrow : W.ownsRow n0 e size v n xs) (hg : (W.alloc tmp).grownBy w3 v.ownBlock) (hk : W.heap[k]? = some (.cells cs T f)) (hT : T ≠ e) : w3.heap[k]? = some (.cells cs T f) := by
  have h1 : k < W.heap.size := heap_lt hk
  rw [hg.block k (by rw [World.size_alloc]; omega) ?_, heap_alloc_old _ _ h1, hk]
  rintro h
  rcases hrow.2 with ⟨rfl, _⟩ | ⟨g, cap, cur, rfl, _, hgb, _⟩
  · simp [Value.ownBlock] at h
  · obtain rfl : k = g := by simpa [Value.ownBlock] using h
    rw [hgb] at hk
    cases hk
    exact hT rfl
theorem owns_apart {W w3 : World} {n0 base e T size size' n n' : Nat} {v v' : Value} {xs xs' : List Value} {tmp : Obj} (hrow : W.ownsRow n0 e size v n xs) (hg : (W.alloc tmp).grownBy w3 v.ownBlock) (h : W.ownsRow base T size' v' n' xs') (hT : T ≠ e) : w3.ownsRow base T size' v' n' xs' := by
  obtain ⟨hl, h0 | ⟨g, cap, cur, hv, hb, hh, rest⟩⟩ := h
  · exact ⟨hl, .inl h0⟩
  · exact ⟨hl, .inr ⟨g, cap, cur, hv, hb, kept_grown hrow hg hh hT, rest⟩⟩
theorem owns_only {W W' : World} {base T size n : Nat} {v : Value} {xs : List Value} (h : W.ownsRow base T size v n xs) (o : Only [] W W') : W'.ownsRow base T size v n xs := (KeepC.of_only (b := 0) o).owns h
theorem below_append {w W w3 : World} {e size n : Nat} {v : Value} {xs : List Value} {tmp : Obj} (hB : Below w.heap.size w W) (hrow : W.ownsRow w.heap.size e size v n xs) (hg : (W.alloc tmp).grownBy w3 v.ownBlock) : Below w.heap.size w w3 :=
  (hB.alloc hB.size tmp).grown hg (by rw [World.size_alloc]; have := hB.size; omega) fun j hj => (hrow.lt j hj).1

/-- The two lists that grow side by side. -/
structure Side (w : World) (n me m : Nat) (E O : Option Addr) (u v x fo : Nat → Int) (p q o wt : Nat → Nat) (k : Nat) (vs vo : Value) (wr : World) : Prop where
  some : wr.ownsRow w.heap.size 70 3 vs k (edgesL (fun i => u (o i)) (fun i => v (o i)) (fun i => x (o i)) k)
  out : wr.ownsRow w.heap.size 164 3 vo (k + 1) (edgesL (rA n p q o wt) (rB n p q o) (rC n p q o wt) (k + 1))
  bel : Below w.heap.size w wr
theorem Side.next1 {w : World} {n me m : Nat} {E O : Option Addr} {u v x fo : Nat → Int} {p q o wt : Nat → Nat} {k ok : Nat} {vs vo v' : Value} {wr W' : World} {tmp : Obj} (h : Side w n me m E O u v x fo p q o wt k vs vo wr) (hok : o k = ok)
    (hown : W'.ownsRow w.heap.size 70 3 v' (k + 1) (edgesL (fun i => u (o i)) (fun i => v (o i)) (fun i => x (o i)) k ++ [.int .i64 (u ok), .int .i64 (v ok), .int .i64 (x ok)])) (hg : (wr.alloc tmp).grownBy W' vs.ownBlock) :
    W'.ownsRow w.heap.size 70 3 v' (k + 1) (edgesL (fun i => u (o i)) (fun i => v (o i)) (fun i => x (o i)) (k + 1)) ∧ W'.ownsRow w.heap.size 164 3 vo (k + 1) (edgesL (rA n p q o wt) (rB n p q o) (rC n p q o wt) (k + 1)) ∧ Below w.heap.size w W' := by
  refine ⟨?_, owns_apart h.some hg h.out (by decide), below_append h.bel h.some hg⟩
  rw [edgesL_succ, hok]
  exact hown
theorem Side.next2 {w : World} {n me m : Nat} {E O : Option Addr} {u v x fo : Nat → Int} {p q o wt : Nat → Nat} {k : Nat} {vs vo v' : Value} {wr W' : World} {tmp : Obj} (_ : Picked w n me m E O u v x fo p q o)
    (h : wr.ownsRow w.heap.size 70 3 vs (k + 1) (edgesL (fun i => u (o i)) (fun i => v (o i)) (fun i => x (o i)) (k + 1)) ∧ wr.ownsRow w.heap.size 164 3 vo (k + 1) (edgesL (rA n p q o wt) (rB n p q o) (rC n p q o wt) (k + 1)) ∧ Below w.heap.size w wr)
    (hown : W'.ownsRow w.heap.size 164 3 v' (k + 1 + 1) (edgesL (rA n p q o wt) (rB n p q o) (rC n p q o wt) (k + 1) ++ [.int .i64 (rA n p q o wt (k + 1)), .int .i64 (rB n p q o (k + 1)), .int .i64 (rC n p q o wt (k + 1))])) (hg : (wr.alloc tmp).grownBy W' vo.ownBlock) :
    Side w n me m E O u v x fo p q o wt (k + 1) vs v' W' :=
  ⟨owns_apart h.2.1 hg h.1 (by decide), by rw [edgesL_succ]; exact hown, below_append h.2.2 h.2.1 hg⟩

set_option maxRecDepth 100000 in
set_option maxHeartbeats 4000000 in
theorem RefRows_any (A E O : Option Addr) (n c me ce m co : Nat) (f u v x fo : Nat → Int) (p q o wt : Nat → Nat) (w : World) (hw : IntsIn w .i64 A n f) (hf : ∀ j, j < n → f j = wt j) (hP : Picked w n me m E O u v x fo p q o)
    (hT : total n wt ≤ 3037000499) (hn : n ≤ 65536) (hm : m ≤ 65536) : Calls Try.prog 107 #[.slice A n c, .slice E me ce, .slice O m co] w fun e w' =>
      ∃ vo, e = .returned vo ∧ w'.ownsRow w.heap.size 164 3 vo (m + 1) (edgesL (rA n p q o wt) (rB n p q o) (rC n p q o wt) (m + 1)) ∧ Below w.heap.size w w' := by
  obtain ⟨i0, hi, hz0, hz1, hz2⟩ := info_parts infoRRow
  obtain ⟨i1, gi, gz0, gz1, gz2⟩ := info_parts infoEdge
  have HW := Lib.hid hw
  have HF := Lib.hid hf
  have HP := Lib.hid hP
  have CR := Lib.hid (fun (W : World) (hO : Only [] w W) (B : Option Addr) (k cb : Nat) (hk : k ≤ m) (hB : EdgesIn W B k (fun i => u (o i)) (fun i => v (o i)) (fun i => x (o i))) =>
    show Calls Try.prog 111 #[.slice A n c, .slice B k cb] W fun e w' => e = .returned (.agg #[.int .i64 (rA n p q o wt k), .int .i64 (rB n p q o k), .int .i64 (rC n p q o wt k)]) ∧ Only [] W w' from
      (RefRow_any A B n c k cb f _ _ _ (fun i => p (o i)) (fun i => q (o i)) wt W (hw.only hO) hB hf (fun j hj => hP.ends (o j) (hP.inds j (by omega)).2) hT hn).mono fun _ _ h => h)
  clear hw hf hP hT
  go_enter Try.func107, Try.ntmps107
  go_wp2_with fail
  refine (CR.out w (Only.refl _ _) none 0 0 (Nat.zero_le _) ⟨fun h => by omega, fun j hj => by omega, by unfold maxLen; omega⟩).mono ?_
  rintro e w1 ⟨rfl, hO1⟩
  have HO1 := Lib.hid hO1
  clear hO1
  have H0 := Lib.hid (show Side w n me m E O u v x fo p q o wt 0 (.slice none 0 0) (.slice (some ⟨w1.heap.size, 0, none⟩) 1 1) (w1.alloc (.cells #[.int .i64 (rA n p q o wt 0), .int .i64 (rB n p q o 0), .int .i64 (rC n p q o wt 0)] 164)) from by
    refine ⟨World.ownsRow_nil _ _ _ _, ?_, (HO1.out.alloc _).toBelow⟩
    refine ⟨by simp [edgesL], .inr ⟨w1.heap.size, 1, _, rfl, HO1.out.size, heap_alloc_new w1 _, Nat.le_refl _, by unfold maxLen; omega, rfl, ?_⟩⟩
    rw [edgesL_succ]
    rfl)
  go_wp2_with fail
  go_loopw [7, 8, 9] (fun vs vo i wr => ∃ k : Nat, k ≤ m ∧ i = .int .i64 k ∧ Hid (Side w n me m E O u v x fo p q o wt k vs vo wr)) (fun _ _ i _ => m - (intOf i).toNat)
  case atStart => exact ⟨0, Nat.zero_le _, rfl, H0⟩
  case round =>
    clear H0 HO1
    obtain ⟨k, hk, rfl, HS⟩ := hrel
    by_cases hlt : k < m
    · have HPw := Lib.hid (HP.out.only (only_of_below' HS.out.bel))
      obtain ⟨hfo, hol⟩ := HP.out.inds k hlt
      obtain ⟨bO, oO, rfl, hcO⟩ := HPw.out.order.cell hlt
      rw [hfo] at hcO
      obtain ⟨bE, oE, rfl, hbE, e0, e1, e2⟩ := HPw.out.edges.cell hol
      have hsz := HS.out.bel.size
      have hrow := HS.out.some
      clear hfo
      obtain ⟨ok, hok⟩ : ∃ ok, o k = ok := ⟨_, rfl⟩
      have HOK := Lib.hid hok
      rw [hok] at hcO e0 e1 e2 hol
      clear hok
      go_wp2_with (at_builtin; refine wpList_append_own _ rfl _ _ 67 rfl w.heap.size 70 i1 (.agg #[.int .i64 0, .int .i64 0, .int .i64 0]) 3 24 Try.underlying67 gi gz0 gz1 gz2 rfl (by decide) _ _ _ rfl (hrow.alloc _) ⟨wr.heap.size, 0, none⟩ 1 1 [.int .i64 (u ok), .int .i64 (v ok), .int .i64 (x ok)] rfl rfl (cell_three_new _ _ _ _ _) (by simp [Value.oneCell']) (by unfold maxLen; omega) (by omega) (by simp; omega) ?_; intro v' w1 hown' hgrow _; have HN := Lib.hid (HS.out.next1 HOK.out hown' hgrow); clear hown' hgrow hrow)
      obtain ⟨B, cb, rfl, hEd⟩ := edges_own HN.out.1 (fun j hj => HP.out.edges.wf (o j) (HP.out.inds j (by omega)).2)
      refine (CR.out w1 (only_of_below' HN.out.2.2) B (k + 1) cb (by omega) hEd).mono ?_
      rintro e w2 ⟨rfl, hO2⟩
      have HM := Lib.hid (And.intro (owns_only HN.out.1 hO2) (And.intro (owns_only HN.out.2.1 hO2) (HN.out.2.2.trans (hO2.toBelow.mono HN.out.2.2.size))))
      clear hEd hO2
      have hsz2 := HM.out.2.2.size
      have hrow2 := HM.out.2.1
      go_wp2_with (at_builtin; refine wpList_append_own _ rfl _ _ 156 rfl w.heap.size 164 i0 (.agg #[.int .i64 0, .int .i64 0, .int .i64 0]) 3 24 Try.underlying156 hi hz0 hz1 hz2 rfl (by decide) _ _ _ rfl (hrow2.alloc _) ⟨w2.heap.size, 0, none⟩ 1 1 [.int .i64 (rA n p q o wt (k + 1)), .int .i64 (rB n p q o (k + 1)), .int .i64 (rC n p q o wt (k + 1))] rfl rfl (cell_three_new _ _ _ _ _) (by simp [Value.oneCell']) (by unfold maxLen; omega) (by omega) (by simp; omega) ?_; intro v' w3 hown' hgrow _; have HR := Lib.hid (Side.next2 HP.out HM.out hown' hgrow); clear hown' hgrow hrow2)
      go_roundw
      case rel => exact ⟨k + 1, by omega, by go_num, HR⟩
      case measure => simp [intOf]; omega
    · obtain rfl : k = m := by omega
      go_wp2_with fail
      go_ret
      exact ⟨_, rfl, HS.out.out, HS.out.bel⟩

end Go.Proofs.Ytbafacdknaopjaa

/-
  The reference of chapter 27: plain rows; Rows.
-/
namespace Go.Proofs.Ytbafacdknaopjaa
open Go.RowKit
set_option linter.unusedSimpArgs false
set_option linter.unusedSectionVars false

/-- Triples that lie in cells of one's own. -/
theorem trips_own {w : World} {base n : Nat} {T : TypeId} {val : Value} {u v x : Nat → Int} (h : w.ownsRow base T 3 val n (edgesL u v x n)) (hwf : ∀ j, j < n → (Lit.int .i64 (u j)).wf = true ∧ (Lit.int .i64 (v j)).wf = true ∧ (Lit.int .i64 (x j)).wf = true) :
    ∃ A c, val = .slice A n c ∧ EdgesIn w A n u v x := by
  obtain ⟨hl, ⟨rfl, rfl⟩ | ⟨g, cap, cur, rfl, hg, hh, hn, hc, hs, ht⟩⟩ := h
  · exact ⟨none, 0, rfl, fun h => by omega, hwf, by unfold maxLen; omega⟩
  · refine ⟨_, cap, rfl, fun h0 => ⟨g, 0, rfl, heap_lt hh, fun j hj => ?_⟩, hwf, by omega⟩
    have e : ∀ i, i < n * 3 → w.cell? ⟨g, 0 + i, none⟩ = some (.int .i64 (ecell u v x i)) := fun i hi => by
      have := edgesL_get u v x hi
      rw [← ht, List.getElem?_take, if_pos (by omega)] at this
      rw [Nat.zero_add]
      exact cell_of_heap hh (by simpa using this)
    have e0 := e (j * 3) (by omega)
    have e1 := e (j * 3 + 1) (by omega)
    have e2 := e (j * 3 + 2) (by omega)
    rw [ecell_0] at e0
    rw [ecell_1] at e1
    rw [ecell_2] at e2
    exact ⟨e0, e1, e2⟩
theorem wf_of {x : Int} (h0 : -9223372036854775808 ≤ x) (h1 : x ≤ 9223372036854775807) : (Lit.int .i64 x).wf = true := by simp [Lit.wf, IntKind.min, IntKind.max, IntKind.bits, IntKind.signed]; omega
/-- The quantities of a row are numbers of 64 bits. -/
theorem row_wf {n : Nat} {p q o wt : Nat → Nat} {k : Nat} (h : ∀ i, i < k → p (o i) < n ∧ q (o i) < n) (hT : total n wt ≤ 3037000499) (hn : n ≤ 65536) :
    (Lit.int .i64 (rA n p q o wt k)).wf = true ∧ (Lit.int .i64 (rB n p q o k)).wf = true ∧ (Lit.int .i64 (rC n p q o wt k)).wf = true := by
  have hL := labK_labs h
  have h1 := squares_bound (wt := wt) hL hT
  have h2 := roots_le n (labK p q o k)
  have h3 := bigTo_le (n := n) (k := n) (labK p q o k) wt
  have h4 := bigTo_nonneg n n (labK p q o k) wt
  rw [bigTo_all] at h3 h4
  exact ⟨wf_of (by unfold rA; omega) (by unfold rA; omega), wf_of (by unfold rB; omega) (by unfold rB; omega), wf_of (by unfold rC; omega) (by unfold rC; omega)⟩
theorem cell_three_at (w : World) (x y z : Value) (t : TypeId) : ∀ j u, [x, y, z][j]? = some u → ((w.alloc (.cells #[x, y, z] t)).drew).cell? ((⟨w.heap.size, 0, none⟩ : Addr).add j) = some u := cell_three_new w x y z t

set_option maxRecDepth 100000 in
set_option maxHeartbeats 4000000 in
theorem RefPlain_any (A : Option Addr) (n c : Nat) (u v x : Nat → Int) (w : World) (h : EdgesIn w A n u v x) (hn : n ≤ 65537) : Calls Try.prog 106 #[.slice A n c] w fun e w' =>
    ∃ vo, e = .returned vo ∧ w'.ownsRow w.heap.size 91 3 vo n (edgesL u v x n) ∧ Only [] w w' := by
  obtain ⟨i0, hi, hz0, hz1, hz2⟩ := info_parts infoRow
  have HE := Lib.hid h
  clear h
  go_enter Try.func106, Try.ntmps106
  go_wp2_with fail
  go_loopw [3, 4] (fun vo i wr => ∃ k : Nat, k ≤ n ∧ i = .int .i64 k ∧ Hid (wr.ownsRow w.heap.size 91 3 vo k (edgesL u v x k)) ∧ Hid (Below w.heap.size w wr)) (fun _ i _ => n - (intOf i).toNat)
  case atStart => exact ⟨0, Nat.zero_le _, rfl, Lib.hid (World.ownsRow_nil _ _ _ _), Lib.hid (Below.refl _ _)⟩
  case round =>
    obtain ⟨k, hk, rfl, HR, HB⟩ := hrel
    by_cases hlt : k < n
    · obtain ⟨b, off, rfl, hb, e0, e1, e2⟩ := (HE.out.only (only_of_below' HB.out)).cell hlt
      have hown := HR.out
      have hsz := HB.out.size
      obtain ⟨a, ha⟩ : ∃ a, u k = a := ⟨_, rfl⟩
      obtain ⟨d, hd⟩ : ∃ d, v k = d := ⟨_, rfl⟩
      obtain ⟨y, hy⟩ : ∃ y, x k = y := ⟨_, rfl⟩
      have HV := Lib.hid (show edgesL u v x (k + 1) = edgesL u v x k ++ [.int .i64 a, .int .i64 d, .int .i64 y] by rw [edgesL_succ, ha, hd, hy])
      have HC := Lib.hid (show ∀ W, Below w.heap.size w W → W.cell? ⟨b, off + k * 3, none⟩ = some (.int .i64 a) ∧ W.cell? ⟨b, off + k * 3 + 1, none⟩ = some (.int .i64 d) ∧ W.cell? ⟨b, off + k * 3 + 2, none⟩ = some (.int .i64 y) from fun W hW => by
        obtain ⟨b', off', hA, _, g0, g1, g2⟩ := (HE.out.only (only_of_below' hW)).cell hlt
        cases hA
        rw [← ha, ← hd, ← hy]
        exact ⟨g0, g1, g2⟩)
      rw [ha] at e0
      rw [hd] at e1
      rw [hy] at e2
      clear ha hd hy
      go_wp2_with fail
      go_region_held3 (fun w' => w'.cell? ⟨b, off + k * 3, none⟩ = some (.int .i64 a) ∧ w'.cell? ⟨b, off + k * 3 + 1, none⟩ = some (.int .i64 d) ∧ w'.cell? ⟨b, off + k * 3 + 2, none⟩ = some (.int .i64 y)) (first | go_keep | exact hS5)
        ((refine step_append_lies _ (by rfl) _ _ 71 (by rfl) w.heap.size 91 i0 (.agg #[.int .i64 0, .int .i64 0, .int .i64 0]) 3 24 Try.underlying71 hi hz0 hz1 hz2 rfl (by decide) u3 k (edgesL u v x k) (by rfl) ((hown.alloc _).drew) ⟨wr.heap.size, 0, none⟩ 1 1 [.int .i64 a, .int .i64 d, .int .i64 y] (by rfl) (by rfl) (cell_three_at _ _ _ _ _) (by simp [Value.oneCell']) (by omega) (by unfold maxLen; omega) (by omega) (by simp; omega) _ rfl ?_; intro g5 cap5 w5 hown5 hgrow5 _ _; have hB5 := (HB.out.alloc hsz _).drew.grown hgrow5 (by simp; omega) (fun j hj => (hown.lt j hj).1); have hS5 := HC.out w5 hB5; have HN := Lib.hid (And.intro hown5 hB5); clear hown5 hgrow5 hB5))
      all_goals
        have HW := Lib.hid (show w5.ownsRow w.heap.size 91 3 (.slice (some ⟨g5, 0, none⟩) (k + 1) cap5) (k + 1) (edgesL u v x (k + 1)) by rw [HV.out]; exact HN.out.1)
        have HB5 := Lib.hid HN.out.2
        clear hS5 HN e0 e1 e2 hown
        go_wp2_with fail
        go_roundw
        case rel => exact ⟨k + 1, by omega, by go_num, HW, HB5⟩
        case measure => simp [intOf]; omega
    · obtain rfl : k = n := by omega
      go_wp2_with fail
      go_ret
      exact ⟨_, rfl, HR.out, only_of_below' HB.out⟩

theorem total_one (n : Nat) : total n one = n := total_ones n
set_option maxRecDepth 100000 in
set_option maxHeartbeats 4000000 in
theorem RRows_any (n : Int) (E O : Option Addr) (me ce m co : Nat) (u v x fo : Nat → Int) (w : World) (hE : EdgesIn w E me u v x) (hO : IntsIn w .i64 O m fo) (k : Int) (hk : GCode n me u v k) (d : Bool) (hd : d = true ↔ Ordered me m fo) (hm : m ≤ 65536) :
    Calls Try.prog 52 #[.int .i64 n, .slice E me ce, .slice O m co] w (RowsPost n m u v fo w k d) := by
  have CG := Lib.hid (RefGraph_any n E me ce u v x w hE k hk)
  have HE := Lib.hid hE
  have HI := Lib.hid hO
  have HK := Lib.hid hk
  have HD := Lib.hid hd
  clear hE hO hk hd
  go_enter Try.func52, Try.ntmps52
  go_wp2_with fail
  refine CG.out.mono ?_
  rintro e w1 ⟨rfl, hO⟩
  have HO := Lib.hid hO
  clear hO CG
  by_cases h0 : k = 0
  · subst h0
    have CI := Lib.hid (RefOrdered_any me O m co fo w1 (HI.out.only HO.out) d HD.out)
    go_wp2_with fail
    refine CI.out.mono ?_
    rintro e w2 ⟨rfl, hO2⟩
    have HO2 := Lib.hid (HO.out.trans hO2)
    clear hO2 CI
    cases d with
    | false =>
      go_wp2_with fail
      go_ret2
      exact .inr (.inl ⟨rfl, rfl, rfl, HO2.out⟩)
    | true =>
      have HP := Lib.hid ((Picked.of HE.out HI.out HK.out (HD.out.1 rfl)).only HO2.out)
      have hn := (gcode_ok HK.out).1
      obtain ⟨N, rfl⟩ : ∃ N : Nat, n = N := ⟨n.toNat, by omega⟩
      have CE := Lib.hid (RefEven_any N (by omega) w2)
      rw [Int.toNat_natCast] at HP
      have hN : N ≤ 65536 := by omega
      clear hn
      go_wp2_with fail
      refine CE.out.mono ?_
      rintro e w3 ⟨A, c, rfl, hI, hO3⟩
      have HP3 := Lib.hid (HP.out.only hO3)
      have HO3 := Lib.hid (HO2.out.trans hO3)
      have CR := Lib.hid (RefRows_any A E O N c me ce m co (fun _ => 1) u v x fo _ _ _ one w3 hI (fun _ _ => rfl) HP3.out (by rw [total_one]; omega) hN hm)
      clear hI hO3 CE
      go_wp2_with fail
      refine CR.out.mono ?_
      rintro e w4 ⟨vo, rfl, hr, hB⟩
      obtain ⟨A', c', rfl, hE4⟩ := trips_own hr (fun j hj => row_wf (fun i hi => by
        have h1 := HP3.out.inds i (by omega)
        have h2 := HP3.out.ends _ h1.2
        exact ⟨h2.2.2.1, h2.2.2.2⟩) (by rw [total_one]; omega) hN)
      have CP := Lib.hid (RefPlain_any A' (m + 1) c' _ _ _ w4 hE4 (by omega))
      have HO4 := Lib.hid (HO3.out.trans (only_of_below' hB))
      clear hr hB hE4 CR
      go_wp2_with fail
      refine CP.out.mono ?_
      rintro e w5 ⟨vo, rfl, hr, hO5⟩
      have HR := Lib.hid (show RowsAt w w5 N (fun j => (u j).toNat) (fun j => (v j).toNat) (fun j => (fo j).toNat) m vo from ⟨owns_base hr HO4.out.size, HO4.out.trans hO5⟩)
      clear hr hO5 CP
      go_wp2_with fail
      go_ret2
      exact .inr (.inr ⟨rfl, rfl, vo, rfl, HR.out⟩)
  · have q : (k != 0) = true := by simp [h0]
    go_wp2_with fail
    go_ret2
    exact .inl ⟨h0, rfl, HO.out⟩

end Go.Proofs.Ytbafacdknaopjaa

/-
  sweep: Giant and Jump, and the reference's.
-/
namespace Go.Proofs.Ytbafacdknaopjaa
open Go.RowKit
set_option linter.unusedSimpArgs false
set_option linter.unusedSectionVars false

/-- The first row that is so large. -/
def GiantIs (n : Nat) (u : Nat → Int) (size i : Int) (b : Bool) : Prop :=
  (b = true ∧ ∃ k : Nat, i = k ∧ k < n ∧ size ≤ u k ∧ ∀ j, j < k → u j < size) ∨ (b = false ∧ i = 0 ∧ ∀ j, j < n → u j < size)
theorem GiantIs.unique {n : Nat} {u : Nat → Int} {size i i' : Int} {b b' : Bool} (h : GiantIs n u size i b) (h' : GiantIs n u size i' b') : i = i' ∧ b = b' := by
  rcases h with ⟨rfl, k, rfl, h1, h2, h3⟩ | ⟨rfl, rfl, h1⟩ <;> rcases h' with ⟨rfl, k', rfl, g1, g2, g3⟩ | ⟨rfl, rfl, g1⟩
  · refine ⟨?_, rfl⟩
    rcases Nat.lt_trichotomy k k' with h | h | h
    · have := g3 k h; omega
    · rw [h]
    · have := h3 k' h; omega
  · have := g1 k h1; omega
  · have := h1 k' g1; omega
  · exact ⟨rfl, rfl⟩
def Fair (n : Nat) (u : Nat → Int) : Prop := ∀ j, j < n → 0 ≤ u j ∧ u j ≤ 1099511627776
/-- Where it has grown most among the first k rows, and by how much. -/
def jmp (u : Nat → Int) : Nat → Int × Int
  | 0 => (0, 0)
  | 1 => (0, 0)
  | k + 2 => if (jmp u (k + 1)).2 < u (k + 1) - u k then (((k + 1 : Nat) : Int), u (k + 1) - u k) else jmp u (k + 1)
theorem jmp_next (u : Nat → Int) {k : Nat} (hk : 1 ≤ k) : jmp u (k + 1) = if (jmp u k).2 < u k - u (k - 1) then ((k : Int), u k - u (k - 1)) else jmp u k := by
  obtain ⟨j, rfl⟩ : ∃ j, k = j + 1 := ⟨k - 1, by omega⟩
  rfl
def JumpIs (n : Nat) (u : Nat → Int) (i b : Int) : Prop := (Fair n u ∧ (i, b) = jmp u n) ∨ (¬ Fair n u ∧ i = 0 ∧ b = 0)
theorem JumpIs.unique {n : Nat} {u : Nat → Int} {i b i' b' : Int} (h : JumpIs n u i b) (h' : JumpIs n u i' b') : i = i' ∧ b = b' := by
  rcases h with ⟨h1, h2⟩ | ⟨h1, rfl, rfl⟩ <;> rcases h' with ⟨g1, g2⟩ | ⟨g1, rfl, rfl⟩
  · have := h2.trans g2.symm
    cases this
    exact ⟨rfl, rfl⟩
  · exact absurd h1 g1
  · exact absurd g1 h1
  · exact ⟨rfl, rfl⟩
theorem jmp_range {n : Nat} {u : Nat → Int} (h : Fair n u) : ∀ k, k ≤ n → 0 ≤ (jmp u k).1 ∧ (jmp u k).1 ≤ k ∧ 0 ≤ (jmp u k).2 ∧ (jmp u k).2 ≤ 1099511627776 := by
  intro k
  induction k with
  | zero => intro _; exact ⟨by simp [jmp], by simp [jmp], by simp [jmp], by simp [jmp]⟩
  | succ k ih =>
    intro hk
    have := ih (by omega)
    rcases Nat.eq_zero_or_pos k with rfl | hp
    · exact ⟨by simp [jmp], by simp [jmp], by simp [jmp], by simp [jmp]⟩
    · rw [jmp_next u hp]
      have h1 := h k (by omega)
      have h2 := h (k - 1) (by omega)
      split
      · simp only
        omega
      · omega

def GiantPost (n : Nat) (u : Nat → Int) (size : Int) (w : World) (e : Ending) (w' : World) : Prop := ∃ i b, e = .returned (.tuple #[.int .i64 i, .bool b]) ∧ GiantIs n u size i b ∧ Only [] w w'

set_option maxRecDepth 100000 in
set_option maxHeartbeats 2000000 in
theorem SGiant_any (A : Option Addr) (n c : Nat) (u v x : Nat → Int) (size : Int) (w : World) (h : EdgesIn w A n u v x) (hn : n ≤ 65536) : Calls Try.prog 62 #[.slice A n c, .int .i64 size] w (GiantPost n u size w) := by
  have HE := Lib.hid h
  clear h
  go_enter Try.func62, Try.ntmps62
  go_wp2_with fail
  go_loopw [10] (fun i wr => ∃ k : Nat, k ≤ n ∧ i = .int .i64 k ∧ Hid (∀ j, j < k → u j < size) ∧ Hid (Only [] w wr)) (fun i _ => n - (intOf i).toNat)
  case atStart => exact ⟨0, Nat.zero_le _, rfl, Lib.hid fun j hj => by omega, Lib.hid (Only.refl _ _)⟩
  case round =>
    obtain ⟨k, hk, rfl, HN, HO⟩ := hrel
    by_cases hlt : k < n
    · obtain ⟨b, off, rfl, hb, e0, e1, e2⟩ := (HE.out.only HO.out).cell hlt
      have HO2 := Lib.hid (HO.out.alloc (.cells #[.int .i64 (u k), .int .i64 (v k), .int .i64 (x k)] 91))
      obtain ⟨a, ha⟩ : ∃ a, u k = a := ⟨_, rfl⟩
      have HA := Lib.hid ha
      rw [ha] at e0 HO2
      clear ha
      by_cases hs : size ≤ a
      · go_wp2_with fail
        go_ret2
        exact ⟨_, _, rfl, .inl ⟨rfl, k, rfl, hlt, by rw [HA.out]; exact hs, HN.out⟩, HO2.out⟩
      · have HN2 := Lib.hid (show ∀ j, j < k + 1 → u j < size from fun j hj => by
          by_cases e : j = k
          · rw [e, HA.out]; omega
          · exact HN.out j (by omega))
        go_wp2_with fail
        go_roundw
        case rel => exact ⟨k + 1, by omega, by go_num, HN2, HO2⟩
        case measure => simp [intOf]; omega
    · obtain rfl : k = n := by omega
      go_wp2_with fail
      go_ret2
      exact ⟨_, _, rfl, .inr ⟨rfl, rfl, HN.out⟩, HO.out⟩

set_option maxRecDepth 100000 in
set_option maxHeartbeats 2000000 in
theorem RGiant_any (A : Option Addr) (n c : Nat) (u v x : Nat → Int) (size : Int) (w : World) (h : EdgesIn w A n u v x) (hn : n ≤ 65536) : Calls Try.prog 63 #[.slice A n c, .int .i64 size] w (GiantPost n u size w) := by
  have HE := Lib.hid h
  clear h
  go_enter Try.func63, Try.ntmps63
  go_wp2_with fail
  go_loop [6] (fun i => ∃ k : Nat, k ≤ n ∧ i = .int .i64 k ∧ Hid (∀ j, j < k → u j < size)) (fun i => n - (intOf i).toNat)
  case atStart => exact ⟨0, Nat.zero_le _, rfl, Lib.hid fun j hj => by omega⟩
  case round =>
    obtain ⟨k, hk, rfl, HN⟩ := hrel
    by_cases hlt : k < n
    · obtain ⟨b, off, rfl, hb, e0, e1, e2⟩ := HE.out.cell hlt
      obtain ⟨a, ha⟩ : ∃ a, u k = a := ⟨_, rfl⟩
      have HA := Lib.hid ha
      rw [ha] at e0
      clear ha e1 e2
      by_cases hs : size ≤ a
      · go_wp2_with fail
        go_ret2
        exact ⟨_, _, rfl, .inl ⟨rfl, k, rfl, hlt, by rw [HA.out]; exact hs, HN.out⟩, Only.refl _ _⟩
      · have HN2 := Lib.hid (show ∀ j, j < k + 1 → u j < size from fun j hj => by
          by_cases e : j = k
          · rw [e, HA.out]; omega
          · exact HN.out j (by omega))
        go_wp2_with fail
        go_round
        case rel => exact ⟨k + 1, by omega, by go_num, HN2⟩
        case measure => simp [intOf]; omega
    · obtain rfl : k = n := by omega
      go_wp2_with fail
      go_ret2
      exact ⟨_, _, rfl, .inr ⟨rfl, rfl, HN.out⟩, Only.refl _ _⟩

set_option maxRecDepth 100000 in
set_option maxHeartbeats 4000000 in
theorem SJump_any (A : Option Addr) (n c : Nat) (u v x : Nat → Int) (w : World) (h : EdgesIn w A n u v x) (hn : n ≤ 65536) : Calls Try.prog 64 #[.slice A n c] w fun e w' =>
    ∃ i b, e = .returned (.tuple #[.int .i64 i, .int .i64 b]) ∧ JumpIs n u i b ∧ Only [] w w' := by
  have HE := Lib.hid h
  clear h
  go_enter Try.func64, Try.ntmps64
  go_wp2_with fail
  go_loopw [2, 3, 10] (fun z y i wr => ∃ k : Nat, k ≤ n ∧ i = .int .i64 k ∧ z = .int .i64 0 ∧ y = .int .i64 0 ∧ Hid (Fair k u) ∧ Hid (Only [] w wr)) (fun _ _ i _ => n - (intOf i).toNat)
  case atStart => exact ⟨0, Nat.zero_le _, rfl, rfl, rfl, Lib.hid fun j hj => by omega, Lib.hid (Only.refl _ _)⟩
  case round =>
    obtain ⟨k, hk, rfl, rfl, rfl, HN, HO⟩ := hrel
    by_cases hlt : k < n
    · obtain ⟨b, off, rfl, hb, e0, e1, e2⟩ := (HE.out.only HO.out).cell hlt
      have HO2 := Lib.hid (HO.out.alloc (.cells #[.int .i64 (u k), .int .i64 (v k), .int .i64 (x k)] 91))
      obtain ⟨a, ha⟩ : ∃ a, u k = a := ⟨_, rfl⟩
      have HA := Lib.hid ha
      rw [ha] at e0 HO2
      clear ha
      by_cases h1 : a < 0
      · have HB := Lib.hid (show ¬ Fair n u from fun hf => by have := hf k hlt; rw [HA.out] at this; omega)
        go_wp2_with fail
        go_ret2
        exact ⟨_, _, rfl, .inr ⟨HB.out, rfl, rfl⟩, HO2.out⟩
      · by_cases h2 : 1099511627776 < a
        · have HB := Lib.hid (show ¬ Fair n u from fun hf => by have := hf k hlt; rw [HA.out] at this; omega)
          go_wp2_with fail
          go_ret2
          exact ⟨_, _, rfl, .inr ⟨HB.out, rfl, rfl⟩, HO2.out⟩
        · have HN2 := Lib.hid (show Fair (k + 1) u from fun j hj => by
            by_cases e : j = k
            · rw [e, HA.out]; omega
            · exact HN.out j (by omega))
          go_wp2_with fail
          go_roundw
          case rel => exact ⟨k + 1, by omega, by go_num, rfl, rfl, HN2, HO2⟩
          case measure => simp [intOf]; omega
    · obtain rfl : k = n := by omega
      go_wp2_with fail
      go_loopw [2, 3, 6] (fun i b j wj => ∃ r : Nat, r ≤ max k 1 ∧ 1 ≤ r ∧ j = .int .i64 r ∧ i = .int .i64 (jmp u r).1 ∧ b = .int .i64 (jmp u r).2 ∧ Hid (Only [] w wj)) (fun _ _ j _ => k - (intOf j).toNat)
      case atStart => exact ⟨1, by omega, Nat.le_refl _, rfl, rfl, rfl, HO⟩
      case round =>
        clear HO
        obtain ⟨r, hr, hr1, rfl, rfl, rfl, HO⟩ := hrel
        by_cases hrk : r < k
        · obtain ⟨b, off, rfl, hb, e0, _, _⟩ := (HE.out.only HO.out).cell hrk
          obtain ⟨b', off', hA', _, f0, _, _⟩ := (HE.out.only HO.out).cell (show r - 1 < k by omega)
          cases hA'
          have hj := jmp_range HN.out r (by omega)
          have hx := jmp_next u hr1
          have g1 := HN.out r hrk
          have g2 := HN.out (r - 1) (by omega)
          obtain ⟨r', hr'⟩ : ∃ r', r - 1 = r' := ⟨_, rfl⟩
          rw [hr'] at f0 hx g2
          have HX := Lib.hid hx
          clear hx
          obtain ⟨a, ha⟩ : ∃ a, u r = a := ⟨_, rfl⟩
          obtain ⟨d, hd⟩ : ∃ d, u r' = d := ⟨_, rfl⟩
          rw [ha] at e0 g1 HX
          rw [hd] at f0 g2 HX
          obtain ⟨⟨ji, jb⟩, hjj⟩ : ∃ t, jmp u r = t := ⟨_, rfl⟩
          rw [hjj] at hj HX ⊢
          obtain ⟨r'', rfl⟩ : ∃ r'', r = r'' + 1 := ⟨r - 1, by omega⟩
          obtain rfl : r'' = r' := by omega
          clear ha hd hjj hr'
          simp only at hj ⊢
          by_cases hc : jb < a - d
          · have HX2 := Lib.hid (show jmp u (r'' + 1 + 1) = (((r'' + 1 : Nat) : Int), a - d) by rw [HX.out, if_pos hc])
            go_wp2_with fail
            go_quiet (fail)
            go_wp2_with fail
            go_roundw
            case rel => exact ⟨r'' + 1 + 1, by omega, by omega, by go_num, by rw [HX2.out]; go_num, by rw [HX2.out], Lib.hid (HO.out.drewN nq)⟩
            case measure => simp [intOf]; omega
          · have HX2 := Lib.hid (show jmp u (r'' + 1 + 1) = (ji, jb) by rw [HX.out, if_neg hc])
            go_wp2_with fail
            go_quiet (fail)
            go_wp2_with fail
            go_roundw
            case rel => exact ⟨r'' + 1 + 1, by omega, by omega, by go_num, by rw [HX2.out], by rw [HX2.out], Lib.hid (HO.out.drewN nq)⟩
            case measure => simp [intOf]; omega
        · have HX := Lib.hid (show jmp u r = jmp u k by
            rcases Nat.eq_zero_or_pos k with rfl | hp
            · obtain rfl : r = 1 := by omega
              rfl
            · rw [show r = k by omega])
          rw [HX.out]
          go_wp2_with fail
          go_ret2
          exact ⟨_, _, rfl, .inl ⟨HN.out, rfl⟩, HO.out⟩

set_option maxRecDepth 100000 in
set_option maxHeartbeats 4000000 in
theorem RJump_any (A : Option Addr) (n c : Nat) (u v x : Nat → Int) (w : World) (h : EdgesIn w A n u v x) (hn : n ≤ 65536) : Calls Try.prog 65 #[.slice A n c] w fun e w' =>
    ∃ i b, e = .returned (.tuple #[.int .i64 i, .int .i64 b]) ∧ JumpIs n u i b ∧ Only [] w w' := by
  have HE := Lib.hid h
  clear h
  go_enter Try.func65, Try.ntmps65
  go_wp2_with fail
  go_loop [6] (fun i => ∃ k : Nat, k ≤ n ∧ i = .int .i64 k ∧ Hid (Fair k u)) (fun i => n - (intOf i).toNat)
  case atStart => exact ⟨0, Nat.zero_le _, rfl, Lib.hid fun j hj => by omega⟩
  case round =>
    obtain ⟨k, hk, rfl, HN⟩ := hrel
    by_cases hlt : k < n
    · obtain ⟨b, off, rfl, hb, e0, e1, e2⟩ := HE.out.cell hlt
      obtain ⟨a, ha⟩ : ∃ a, u k = a := ⟨_, rfl⟩
      have HA := Lib.hid ha
      rw [ha] at e0
      clear ha e1 e2
      by_cases h1 : a < 0
      · have HB := Lib.hid (show ¬ Fair n u from fun hf => by have := hf k hlt; rw [HA.out] at this; omega)
        go_wp2_with fail
        go_ret2
        exact ⟨_, _, rfl, .inr ⟨HB.out, rfl, rfl⟩, Only.refl _ _⟩
      · by_cases h2 : 1099511627776 < a
        · have HB := Lib.hid (show ¬ Fair n u from fun hf => by have := hf k hlt; rw [HA.out] at this; omega)
          go_wp2_with fail
          go_ret2
          exact ⟨_, _, rfl, .inr ⟨HB.out, rfl, rfl⟩, Only.refl _ _⟩
        · have HN2 := Lib.hid (show Fair (k + 1) u from fun j hj => by
            by_cases e : j = k
            · rw [e, HA.out]; omega
            · exact HN.out j (by omega))
          go_wp2_with fail
          go_round
          case rel => exact ⟨k + 1, by omega, by go_num, HN2⟩
          case measure => simp [intOf]; omega
    · obtain rfl : k = n := by omega
      go_wp2_with fail
      go_loopw [4, 5, 7] (fun i b j wj => ∃ r : Nat, r ≤ max k 1 ∧ 1 ≤ r ∧ j = .int .i64 r ∧ i = .int .i64 (jmp u r).1 ∧ b = .int .i64 (jmp u r).2 ∧ Hid (Only [] w wj)) (fun _ _ j _ => k - (intOf j).toNat)
      case atStart => exact ⟨1, by omega, Nat.le_refl _, rfl, rfl, rfl, Lib.hid (Only.refl _ _)⟩
      case round =>
        obtain ⟨r, hr, hr1, rfl, rfl, rfl, HO⟩ := hrel
        by_cases hrk : r < k
        · obtain ⟨b, off, rfl, hb, e0, _, _⟩ := (HE.out.only HO.out).cell hrk
          obtain ⟨b', off', hA', _, f0, _, _⟩ := (HE.out.only HO.out).cell (show r - 1 < k by omega)
          cases hA'
          have hj := jmp_range HN.out r (by omega)
          have hx := jmp_next u hr1
          have g1 := HN.out r hrk
          have g2 := HN.out (r - 1) (by omega)
          obtain ⟨r', hr'⟩ : ∃ r', r - 1 = r' := ⟨_, rfl⟩
          rw [hr'] at f0 hx g2
          have HX := Lib.hid hx
          clear hx
          obtain ⟨a, ha⟩ : ∃ a, u r = a := ⟨_, rfl⟩
          obtain ⟨d, hd⟩ : ∃ d, u r' = d := ⟨_, rfl⟩
          rw [ha] at e0 g1 HX
          rw [hd] at f0 g2 HX
          obtain ⟨⟨ji, jb⟩, hjj⟩ : ∃ t, jmp u r = t := ⟨_, rfl⟩
          rw [hjj] at hj HX ⊢
          obtain ⟨r'', rfl⟩ : ∃ r'', r = r'' + 1 := ⟨r - 1, by omega⟩
          obtain rfl : r'' = r' := by omega
          clear ha hd hjj hr'
          simp only at hj ⊢
          by_cases hc : jb < a - d
          · have HX2 := Lib.hid (show jmp u (r'' + 1 + 1) = (((r'' + 1 : Nat) : Int), a - d) by rw [HX.out, if_pos hc])
            go_wp2_with fail
            go_quiet (fail)
            go_wp2_with fail
            go_roundw
            case rel => exact ⟨r'' + 1 + 1, by omega, by omega, by go_num, by rw [HX2.out]; go_num, by rw [HX2.out], Lib.hid (HO.out.drewN nq)⟩
            case measure => simp [intOf]; omega
          · have HX2 := Lib.hid (show jmp u (r'' + 1 + 1) = (ji, jb) by rw [HX.out, if_neg hc])
            go_wp2_with fail
            go_quiet (fail)
            go_wp2_with fail
            go_roundw
            case rel => exact ⟨r'' + 1 + 1, by omega, by omega, by go_num, by rw [HX2.out], by rw [HX2.out], Lib.hid (HO.out.drewN nq)⟩
            case measure => simp [intOf]; omega
        · have HX := Lib.hid (show jmp u r = jmp u k by
            rcases Nat.eq_zero_or_pos k with rfl | hp
            · obtain rfl : r = 1 := by omega
              rfl
            · rw [show r = k by omega])
          rw [HX.out]
          go_wp2_with fail
          go_ret2
          exact ⟨_, _, rfl, .inl ⟨HN.out, rfl⟩, HO.out⟩

end Go.Proofs.Ytbafacdknaopjaa

/-
  Chapter 27: the law's helpers same, kept, few.
-/
namespace Go.Proofs.Ytbafacdknaopjaa
open Go.RowKit
set_option linter.unusedSimpArgs false
set_option linter.unusedSectionVars false

theorem row_neq (x1 y1 z1 x2 y2 z2 : Int) (w : World) : (binOp .neq 91 (.agg #[.int .i64 x1, .int .i64 y1, .int .i64 z1]) (.agg #[.int .i64 x2, .int .i64 y2, .int .i64 z2])).run Try.prog w = .ok (.bool (!decide (x1 = x2 ∧ y1 = y2 ∧ z1 = z2))) w := by
  have yi3 := Try.underlying3
  have yi2 := Try.underlying2
  have hS : Try.prog.underlying 91 = some (.struct (Try.prog.fieldsOf 91)) := by kernel_rfl
  have hp : Try.prog.stoodInHeld 91 = false := by kernel_rfl
  rw [run_neq_struct, show (10000 : Nat) = 9999 + 1 from rfl, run_equalIn_agg w 9999 91 _ _ hS hp]
  simp only [Program.fieldsOf, Try.underlying91]
  go_simp
  by_cases h1 : x1 = x2 <;> by_cases h2 : y1 = y2 <;> by_cases h3 : z1 = z2 <;> simp [h1, h2, h3]

theorem edge_neq (x1 y1 z1 x2 y2 z2 : Int) (w : World) : (binOp .neq 70 (.agg #[.int .i64 x1, .int .i64 y1, .int .i64 z1]) (.agg #[.int .i64 x2, .int .i64 y2, .int .i64 z2])).run Try.prog w = .ok (.bool (!decide (x1 = x2 ∧ y1 = y2 ∧ z1 = z2))) w := by
  have yi3 := Try.underlying3
  have yi2 := Try.underlying2
  have hS : Try.prog.underlying 70 = some (.struct (Try.prog.fieldsOf 70)) := by kernel_rfl
  have hp : Try.prog.stoodInHeld 70 = false := by kernel_rfl
  rw [run_neq_struct, show (10000 : Nat) = 9999 + 1 from rfl, run_equalIn_agg w 9999 70 _ _ hS hp]
  simp only [Program.fieldsOf, Try.underlying70]
  go_simp
  by_cases h1 : x1 = x2 <;> by_cases h2 : y1 = y2 <;> by_cases h3 : z1 = z2 <;> simp [h1, h2, h3]

set_option maxRecDepth 100000 in
set_option maxHeartbeats 2000000 in
theorem lsame_true (A B : Option Addr) (n c d : Nat) (u v x : Nat → Int) (w : World) (h1 : EdgesIn w A n u v x) (h2 : EdgesIn w B n u v x) (hn : n ≤ 65537) : Calls Try.prog 53 #[.slice A n c, .slice B n d] w fun e w' => e = .returned (.bool true) ∧ Only [] w w' := by
  have H1 := Lib.hid h1
  have H2 := Lib.hid h2
  clear h1 h2
  go_enter Try.func53, Try.ntmps53
  go_wp2_with fail
  go_loopw [5] (fun i wr => ∃ k nn : Nat, k ≤ n ∧ i = .int .i64 k ∧ wr = w.drewN nn) (fun i _ => n - (intOf i).toNat)
  case atStart => exact ⟨0, 0, Nat.zero_le _, rfl, rfl⟩
  case round =>
    obtain ⟨k, nn, hk, rfl, rfl⟩ := hrel
    by_cases hlt : k < n
    · obtain ⟨b, off, rfl, hb, e0, e1, e2⟩ := H1.out.cell hlt
      obtain ⟨b', off', rfl, hb', f0, f1, f2⟩ := H2.out.cell hlt
      have qn := fun W => row_neq (u k) (v k) (x k) (u k) (v k) (x k) W
      rw [decide_eq_true ⟨rfl, rfl, rfl⟩] at qn
      go_wp2_with fail
      go_quiet (fail)
      go_wp2_with fail
      go_roundw
      case rel => exact ⟨k + 1, nn + nq, by omega, by go_num, rfl⟩
      case measure => simp [intOf]; omega
    · obtain rfl : k = n := by omega
      go_wp2_with fail
      go_ret
      exact ⟨rfl, (Only.refl [] w).drewN _⟩

set_option maxRecDepth 100000 in
set_option maxHeartbeats 4000000 in
theorem lkept_true (A B P Q : Option Addr) (n m a b c d : Nat) (u v x f : Nat → Int) (mm : Nat) (w : World) (h1 : EdgesIn w A n u v x) (h2 : EdgesIn w B n u v x) (g1 : IntsIn w .i64 P m f) (g2 : IntsIn w .i64 Q mm f) (hmm : m ≤ mm) (hn : n ≤ 65537) (hm : m ≤ 65537) :
    Calls Try.prog 54 #[.slice A n a, .slice B n b, .slice P m c, .slice Q mm d] w fun e w' => e = .returned (.bool true) ∧ Only [] w w' := by
  have hl := g2.len
  unfold maxLen at hl
  have H1 := Lib.hid h1
  have H2 := Lib.hid h2
  have G1 := Lib.hid g1
  have G2 := Lib.hid g2
  clear h1 h2 g1 g2
  go_enter Try.func54, Try.ntmps54
  go_wp2_with fail
  go_loopw [9] (fun i wr => ∃ k nn : Nat, k ≤ n ∧ i = .int .i64 k ∧ wr = w.drewN nn) (fun i _ => n - (intOf i).toNat)
  case atStart => exact ⟨0, 0, Nat.zero_le _, rfl, rfl⟩
  case round =>
    obtain ⟨k, nn, hk, rfl, rfl⟩ := hrel
    by_cases hlt : k < n
    · obtain ⟨b, off, rfl, hb, e0, e1, e2⟩ := H1.out.cell hlt
      obtain ⟨b', off', rfl, hb', f0, f1, f2⟩ := H2.out.cell hlt
      have qn := fun W => edge_neq (u k) (v k) (x k) (u k) (v k) (x k) W
      rw [decide_eq_true ⟨rfl, rfl, rfl⟩] at qn
      go_wp2_with fail
      go_quiet (fail)
      go_wp2_with fail
      go_roundw
      case rel => exact ⟨k + 1, nn + nq, by omega, by go_num, rfl⟩
      case measure => simp [intOf]; omega
    · obtain rfl : k = n := by omega
      go_wp2_with fail
      go_loopw [10] (fun i wj => ∃ r nj : Nat, r ≤ m ∧ i = .int .i64 r ∧ wj = w.drewN nj) (fun i _ => m - (intOf i).toNat)
      case atStart => exact ⟨0, nn, Nat.zero_le _, rfl, rfl⟩
      case round =>
        obtain ⟨r, nj, hr, rfl, rfl⟩ := hrel
        by_cases hrm : r < m
        · obtain ⟨bp, op, rfl, hp⟩ := G1.out.cell hrm
          obtain ⟨bq, oq, rfl, hq⟩ := G2.out.cell (show r < mm by omega)
          have hrmm : r < mm := by omega
          obtain ⟨y, hy⟩ : ∃ y, f r = y := ⟨_, rfl⟩
          rw [hy] at hp hq
          clear hy
          have qe : (y != y) = false := by simp
          go_wp2_with fail
          go_quiet (fail)
          go_wp2_with fail
          go_roundw
          case rel => exact ⟨r + 1, nj + nq, by omega, by go_num, rfl⟩
          case measure => simp [intOf]; omega
        · obtain rfl : r = m := by omega
          go_wp2_with fail
          go_ret
          exact ⟨rfl, (Only.refl [] w).drewN _⟩

/-- Is a graph examined. -/
def isFew (n : Int) (m : Nat) : Bool := decide ((n ≤ 40 ∨ 4096 < n) ∧ m ≤ 120)
set_option maxRecDepth 100000 in
theorem few_any (n : Int) (A : Option Addr) (m c : Nat) (w : World) : Calls Try.prog 50 #[.int .i64 n, .slice A m c] w fun e w' => e = .returned (.bool (isFew n m)) ∧ w = w' := by
  unfold isFew
  by_cases h1 : n ≤ 40
  · by_cases h3 : m ≤ 120
    · rw [decide_eq_true ⟨.inl h1, h3⟩]
      have q3 : decide ((m : Int) ≤ 120) = true := by simp; omega
      go_enter Try.func50, Try.ntmps50
      go_wp2
      go_ret
      exact ⟨rfl, rfl⟩
    · rw [decide_eq_false fun h => h3 h.2]
      have q3 : decide ((m : Int) ≤ 120) = false := by simp; omega
      go_enter Try.func50, Try.ntmps50
      go_wp2
      go_ret
      exact ⟨rfl, rfl⟩
  · by_cases h2 : 4096 < n
    · by_cases h3 : m ≤ 120
      · rw [decide_eq_true ⟨.inr h2, h3⟩]
        have q3 : decide ((m : Int) ≤ 120) = true := by simp; omega
        go_enter Try.func50, Try.ntmps50
        go_wp2
        go_ret
        exact ⟨rfl, rfl⟩
      · rw [decide_eq_false fun h => h3 h.2]
        have q3 : decide ((m : Int) ≤ 120) = false := by simp; omega
        go_enter Try.func50, Try.ntmps50
        go_wp2
        go_ret
        exact ⟨rfl, rfl⟩
    · rw [decide_eq_false fun h => h.1.elim h1 h2]
      go_enter Try.func50, Try.ntmps50
      go_wp2
      go_ret
      exact ⟨rfl, rfl⟩

end Go.Proofs.Ytbafacdknaopjaa
