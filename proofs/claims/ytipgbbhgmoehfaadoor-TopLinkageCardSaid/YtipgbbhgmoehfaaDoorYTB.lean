import Derived.Test.YtipgbbhgmoehfaaDoorYTL
/-
  recon.Build: the tree of a graph.
-/
namespace Go.Proofs.YtipgbbhgmoehfaaDoor
open Go.RowKit
attribute [local go_sem] Oper.semAt_some
set_option linter.unusedSimpArgs false
set_option linter.unusedVariables false
set_option linter.unusedSectionVars false

def zeroTree : Value := .agg #[.int .i64 0, .slice none 0 0, .slice none 0 0, .slice none 0 0, .slice none 0 0, .slice none 0 0]
/-- Either the code of what is wrong, or the tree of the forest. -/
def BuildPost (n : Int) (m : Nat) (u v x : Nat → Int) (k : Int) (w : World) (e : Ending) (w' : World) : Prop := Only [] w w' ∧ ((k ≠ 0 ∧ e = .returned (.tuple #[zeroTree, .int .i64 k])) ∨
  (k = 0 ∧ ∃ (n' : Nat) (o : Nat → Nat) (c s L R P H Z : Nat), n = (n' : Int) ∧ ByWeight m x o ∧ (fl (nat u) (nat v) o m).length = c ∧ (∀ j, j < m → nat u j < n' ∧ nat v j < n') ∧ e = .returned (.tuple #[treeV n' s L R P H Z, .int .i64 0]) ∧
    TIn w' n' c (fun i => nat u (sel (fl (nat u) (nat v) o m) i)) (fun i => nat v (sel (fl (nat u) (nat v) o m) i)) (fun i => x (sel (fl (nat u) (nat v) o m) i)) s L R P H Z))

/-- Six cells of a tree are written. -/
theorem six_set {W W5 : World} {TR : Nat} {a0 a1 a2 a3 a4 a5 v0 v1 v2 v3 v4 v5 : Value} (k : W.heap[TR]? = some (.cells #[a0, a1, a2, a3, a4, a5] 33 (0, 0)))
    (e : (((((W.setCell ⟨TR, 0, none⟩ v0).setCell ⟨TR, 1, none⟩ v1).setCell ⟨TR, 2, none⟩ v2).setCell ⟨TR, 3, none⟩ v3).setCell ⟨TR, 4, none⟩ v4).setCell ⟨TR, 5, none⟩ v5 = W5) :
    W5.heap[TR]? = some (.cells #[v0, v1, v2, v3, v4, v5] 33 (0, 0)) ∧ Only [TR] W W5 := by
  subst e
  refine ⟨?_, ?_⟩
  · have h := heap_setCell_same _ _ 5 _ 33 v5 (heap_setCell_same _ _ 4 _ 33 v4 (heap_setCell_same _ _ 3 _ 33 v3 (heap_setCell_same _ _ 2 _ 33 v2 (heap_setCell_same _ _ 1 _ 33 v1 (heap_setCell_same W _ 0 _ 33 v0 k)))))
    exact h
  · exact ((((((Only.refl [TR] W).setCell (g := TR) (by simp) _).setCell (g := TR) (by simp) _).setCell (g := TR) (by simp) _).setCell (g := TR) (by simp) _).setCell (g := TR) (by simp) _).setCell (g := TR) (by simp) _

set_option maxRecDepth 100000 in
set_option maxHeartbeats 8000000 in
theorem Build_any (n : Int) (A : Option Addr) (m cp : Nat) (u v x : Nat → Int) (w : World) (h : EdgesIn w A m u v x) (k : Int) (hk : GCode n m u v k) : Calls Tryd.prog 7 #[.int .i64 n, .slice A m cp] w (BuildPost n m u v x k w) := by
  have CF := Lib.hid (fun W (hW : Only [] w W) => Forest_any n A m cp u v x W (h.only hW) k hk)
  have HE := Lib.hid h
  have HK := Lib.hid hk
  clear h hk
  go_enter Tryd.func7, Tryd.ntmps7
  go_wp2_with fail
  refine (CF.out _ ((Only.refl [] w).alloc _)).mono ?_
  rintro e w1 ⟨hO1, ⟨h0, rfl⟩ | ⟨rfl, o, B, cb, hb, rfl, hI⟩⟩
  · have q1 : (k != 0) = true := by simpa using h0
    have b0 := hO1.block w.heap.size (by simp) (by simp)
    have k0 : w1.heap[w.heap.size]? = some (.cells #[.int .i64 0, .slice none 0 0, .slice none 0 0, .slice none 0 0, .slice none 0 0, .slice none 0 0] 33 (0, 0)) := b0.trans (heap_alloc_new w _)
    have f0 := cell_of_heap (i := 0) k0 rfl
    have f1 := cell_of_heap (i := 1) k0 rfl
    have f2 := cell_of_heap (i := 2) k0 rfl
    have f3 := cell_of_heap (i := 3) k0 rfl
    have f4 := cell_of_heap (i := 4) k0 rfl
    have f5 := cell_of_heap (i := 5) k0 rfl
    have g0 := frozen_of_heap (i := 0) k0
    have g1 := frozen_of_heap (i := 1) k0
    have g2 := frozen_of_heap (i := 2) k0
    have g3 := frozen_of_heap (i := 3) k0
    have g4 := frozen_of_heap (i := 4) k0
    have g5 := frozen_of_heap (i := 5) k0
    have HO1' := Lib.hid hO1
    clear CF HE HK b0 hO1
    go_wp2_with fail
    obtain ⟨W5, hW5⟩ : ∃ W5, (((((w1.setCell ⟨w.heap.size, 0, none⟩ (.int .i64 0)).setCell ⟨w.heap.size, 1, none⟩ (.slice none 0 0)).setCell ⟨w.heap.size, 2, none⟩ (.slice none 0 0)).setCell ⟨w.heap.size, 3, none⟩ (.slice none 0 0)).setCell ⟨w.heap.size, 4, none⟩ (.slice none 0 0)).setCell ⟨w.heap.size, 5, none⟩ (.slice none 0 0) = W5 := ⟨_, rfl⟩
    rw [hW5]
    obtain ⟨k5, hO5⟩ := six_set k0 hW5
    have HO5 := Lib.hid ((((Only.refl [] w).alloc _).trans HO1'.out).to hO5 fun g hg hl => by simp at hg; omega)
    clear f0 f1 f2 f3 f4 f5 g0 g1 g2 g3 g4 g5 k0 hW5 hO5 HO1' q1
    have f0 := cell_of_heap (i := 0) k5 rfl
    have f1 := cell_of_heap (i := 1) k5 rfl
    have f2 := cell_of_heap (i := 2) k5 rfl
    have f3 := cell_of_heap (i := 3) k5 rfl
    have f4 := cell_of_heap (i := 4) k5 rfl
    have f5 := cell_of_heap (i := 5) k5 rfl
    simp only [List.getElem_toArray, List.getElem_cons_zero, List.getElem_cons_succ] at f0 f1 f2 f3 f4 f5
    clear k5
    exact bodyPost_ret (v := .tuple #[zeroTree, .int .i64 k]) (by simp [results, Tryd.results7, go_sem, f0, f1, f2, f3, f4, f5, zeroTree]) rfl ⟨HO5.out, .inl ⟨h0, rfl⟩⟩
  obtain ⟨⟨hn0, hn1, hm⟩, hg⟩ := gcode_ok HK.out
  obtain ⟨n, rfl⟩ : ∃ n' : Nat, n = (n' : Int) := ⟨n.toNat, by omega⟩
  have hll := fl_len (nat u) (nat v) o m
  obtain ⟨c, hc⟩ : ∃ c, (fl (nat u) (nat v) o m).length = c := ⟨_, rfl⟩
  rw [hc] at hI hll ⊢
  obtain ⟨s, hs⟩ : ∃ s, n + c = s := ⟨_, rfl⟩
  have h20 : s ≤ 30000 := by omega
  have Hg := Lib.hid (show ∀ j, j < m → u j = nat u j ∧ v j = nat v j ∧ nat u j < n ∧ nat v j < n from fun j hj => by
    have h2 := (hg j hj).1
    unfold InE at h2
    unfold nat
    omega)
  have HIc := Lib.hid hI
  have HO1 := Lib.hid hO1
  clear hI hO1 hg CF
  go_upto_region 5 with (fail)
  rw [show (n : Int) + (c : Int) = ((n + c : Nat) : Int) by omega, hs]
  go_cut [9] from 34 to 45 (fun t wc => ∃ Tb L R P H Z, t = .pointer (some ⟨Tb, 0, none⟩) ∧ StartT w1.drew n s Tb L R P H Z wc)
  case first =>
    refine wp_region_any (by kernel_rfl) ?_
    change wpAny _ _ _ _ _ _ _ (World.drew _)
    refine wpAny_take (i := 0) (v := ?v0) rfl (by kernel_rfl) (by kernel_rfl) (by kernel_rfl) (fun _ _ _ h => h) (Or.inl ⟨?w0, ?hy0⟩) ?rest0
    case w0 => rfl
    case hy0 => (intro w; go_simp; with_reducible rfl)
    refine wpAny_take (i := 1) (v := ?v1) rfl (by kernel_rfl) (by kernel_rfl) (by kernel_rfl) (fun _ _ _ h => h) (Or.inl ⟨?w1, ?hy1⟩) ?rest1
    case w1 => rfl
    case hy1 => (intro w; go_simp; with_reducible rfl)
    refine wpAny_take (i := 3) (v := ?v3) rfl (by kernel_rfl) (by kernel_rfl) (by kernel_rfl) (fun _ _ _ h => h) (Or.inl ⟨?w3, ?hy3⟩) ?rest3
    case w3 => rfl
    case hy3 => (intro w; go_simp; with_reducible rfl)
    refine wpAny_take (i := 5) (v := ?v5) rfl (by kernel_rfl) (by kernel_rfl) (by kernel_rfl) (fun _ _ _ h => h) (Or.inl ⟨?w5, ?hy5⟩) ?rest5
    case w5 => rfl
    case hy5 => (intro w; go_simp; with_reducible rfl)
    refine wpAny_take (i := 7) (v := ?v7) rfl (by kernel_rfl) (by kernel_rfl) (by kernel_rfl) (fun _ _ _ h => h) (Or.inl ⟨?w7, ?hy7⟩) ?rest7
    case w7 => rfl
    case hy7 => (intro w; go_simp; with_reducible rfl)
    refine wpAny_take (i := 9) (v := ?v9) rfl (by kernel_rfl) (by kernel_rfl) (by kernel_rfl) (fun _ _ _ h => h) (Or.inl ⟨?w9, ?hy9⟩) ?rest9
    case w9 => rfl
    case hy9 => (intro w; go_simp; with_reducible rfl)
    have hmk := fun W => mk_ints s (by omega) W
    have hmk2 := fun W => mk_ints64 s (by omega) W
    go_simp
    refine makes_law (fuel := 2) [2, 4, 6, 8, 10, 12] (fun i => if i = 12 then 9 else 34 + i) (fun i x => if i = 12 then .pointer (some ⟨x, 0, none⟩) else .slice (some ⟨x, 0, none⟩) s s)
      (tObj s) (fun D => D == [2, 4, 6, 8, 10] || D == [2, 4, 6, 8, 10, 12]) rfl (by decide) ?hd ?hb ?hop (by decide) (by kernel_rfl) ?fin
    case hd =>
      intro i j _ _ hij
      show (if i = 12 then 9 else 34 + i) ≠ (if j = 12 then 9 else 34 + j)
      split <;> split <;> omega
    case hb => intro i hi; simp only [List.mem_cons, List.not_mem_nil, or_false] at hi; rcases hi with rfl | rfl | rfl | rfl | rfl | rfl <;> exact Nat.le_of_ble_eq_true (by kernel_rfl)
    case hop =>
      intro i hi
      simp only [List.mem_cons, List.not_mem_nil, or_false] at hi
      rcases hi with rfl | rfl | rfl | rfl | rfl | rfl
      · exact MakeOp.make _ 31 35 s rfl rfl rfl rfl rfl (by decide) hmk
      · exact MakeOp.make _ 31 37 s rfl rfl rfl rfl rfl (by decide) hmk
      · exact MakeOp.make _ 31 39 s rfl rfl rfl rfl rfl (by decide) hmk
      · exact MakeOp.make _ 24 41 s rfl rfl rfl rfl rfl (by decide) hmk2
      · exact MakeOp.make _ 31 43 s rfl rfl rfl rfl rfl (by decide) hmk
      · exact MakeOp.alloc _ 33 rfl rfl rfl rfl (fun W => by unfold tObj; go_simp)
    case fin =>
      intro D w2 ad r hfull hr hM
      rw [Bool.or_eq_true, beq_iff_eq, beq_iff_eq] at hfull
      rcases hfull with rfl | rfl
      · obtain rfl : r = 1 := by simp only [List.length_cons, List.length_nil] at hr; omega
        simp only [putsL, List.foldl]
        go_simp
        have HM := Lib.hid hM
        clear hM hmk hmk2 hr
        refine wpAny_take (i := 11) (v := ?v11) rfl (by kernel_rfl) (by kernel_rfl) (by kernel_rfl) (fun _ _ _ h => h) (Or.inl ⟨?w11, ?hy11⟩) ?rest11
        case w11 => rfl
        case hy11 => (intro w; go_simp; with_reducible rfl)
        go_simp
        refine wpAny_ready (rs := [12]) (by kernel_rfl) (by simp) ?_
        refine AllReady.cons rfl (fun K hK => ?_) AllReady.nil
        go_simp
        refine hK _ _ ?_
        clear hK K
        refine wpAny_ready (rs := [13]) (by kernel_rfl) (by simp) ?_
        refine AllReady.cons rfl (fun K hK => ?_) AllReady.nil
        go_simp
        refine hK _ _ ?_
        clear hK K
        refine wpAny_done (by kernel_rfl) ?_ _
        go_wp2_with fail
        go_meet
        case rel => exact ⟨_, _, _, _, _, _, rfl, start_one HM.out⟩
      · obtain rfl : r = 0 := by simp only [List.length_cons, List.length_nil] at hr; omega
        simp only [putsL, List.foldl]
        go_simp
        have HM := Lib.hid hM
        have k0 : w2.heap[ad 12]? = some (.cells #[.int .i64 0, .slice none 0 0, .slice none 0 0, .slice none 0 0, .slice none 0 0, .slice none 0 0] 33 (0, 0)) := (hM.row 12 (by decide)).1
        have f0 := cell_of_heap (i := 0) k0 rfl
        have f1 := cell_of_heap (i := 1) k0 rfl
        have f2 := cell_of_heap (i := 2) k0 rfl
        have f3 := cell_of_heap (i := 3) k0 rfl
        have f4 := cell_of_heap (i := 4) k0 rfl
        have f5 := cell_of_heap (i := 5) k0 rfl
        have g0 := frozen_of_heap (i := 0) k0
        have g1 := frozen_of_heap (i := 1) k0
        have g2 := frozen_of_heap (i := 2) k0
        have g3 := frozen_of_heap (i := 3) k0
        have g4 := frozen_of_heap (i := 4) k0
        have g5 := frozen_of_heap (i := 5) k0
        clear hM hmk hmk2 hr
        refine wpAny_take (i := 11) (v := ?v11b) rfl (by kernel_rfl) (by kernel_rfl) (by kernel_rfl) (fun _ _ _ h => h) (Or.inl ⟨?w11b, ?hy11b⟩) ?rest11b
        case w11b => rfl
        case hy11b => (intro w; go_simp; with_reducible rfl)
        go_simp
        refine wpAny_ready (rs := [13]) (by kernel_rfl) (by simp) ?_
        refine AllReady.cons rfl (fun K hK => ?_) AllReady.nil
        go_simp
        refine hK _ _ ?_
        clear hK K
        refine wpAny_done (by kernel_rfl) ?_ _
        go_wp2_with fail
        go_meet
        case rel => exact ⟨_, _, _, _, _, _, rfl, start_two HM.out⟩
  case rest =>
    obtain ⟨Tb, L, R, P, H, Z, rfl, hS⟩ := hcut
    obtain ⟨hT, hA⟩ := hS.tt
    have hmk := mk_prs n (by omega)
    have HA := Lib.hid hA
    obtain ⟨G, hG⟩ : ∃ G, wc.heap.size = G := ⟨_, rfl⟩
    obtain ⟨w3, hw3⟩ : ∃ w3, wc.alloc (.cells (madeCells #[.int .i64 0, .int .i64 0] (n * 2)) 66) = w3 := ⟨_, rfl⟩
    replace hmk := hmk wc
    rw [hG] at hT HA hmk
    rw [hw3] at hT hmk
    have HT := Lib.hid hT
    clear hT hA hS hw3 hG
    go_upto_region 7 with (fail)
    go_wp2_with fail
    have n1 := HA.out.tl
    have n2 := HA.out.tr
    have n3 := HA.out.tp
    have n5 := HA.out.tz
    have m1 := HA.out.lr
    have m2 := HA.out.lp
    have m3 := HA.out.rp
    have n1' := Ne.symm n1
    have n2' := Ne.symm n2
    have n3' := Ne.symm n3
    have m1' := Ne.symm m1
    have m2' := Ne.symm m2
    have m3' := Ne.symm m3
    go_loopw [49] (fun i wr => ∃ t : Nat, t ≤ s ∧ i = .int .i64 t ∧ Hid (TT w1.drew n s Tb L R P H Z G (fun x => if x < t then -1 else 0) (fun x => if x < t then -1 else 0) (fun x => if x < t then -1 else 0) (fun _ => 0) (fun _ => 0) (fun _ => 0) (fun _ => 0) wr)) (fun i _ => s - (intOf i).toNat)
    case atStart => exact ⟨0, Nat.zero_le _, rfl, Lib.hid (HT.out.congr (fun i _ => ⟨(if_neg (Nat.not_lt_zero i)).symm, (if_neg (Nat.not_lt_zero i)).symm, (if_neg (Nat.not_lt_zero i)).symm, rfl, rfl⟩) (fun i _ => ⟨rfl, rfl⟩))⟩
    case round =>
      clear HT
      obtain ⟨t, ht, rfl, hf⟩ := hrel
      by_cases hlt : t < s
      ·
        --<
        obtain ⟨_, s1, s2, s3, _, _⟩ := hf.out.cells
        have d1 := hf.out.rL.cell hlt
        have d2 := hf.out.rR.cell hlt
        have d3 := hf.out.rP.cell hlt
        have z1 := hf.out.rL.frozen t
        have z2 := hf.out.rR.frozen t
        have z3 := hf.out.rP.frozen t
        rw [if_neg (Nat.lt_irrefl t)] at d1 d2 d3
        have HN := Lib.hid (((((hf.out.setL HA.out t (-1)).setR HA.out t (-1)).setP HA.out t (-1)).drewN 1).congr (fL' := fun x => if x < t + 1 then -1 else 0) (fR' := fun x => if x < t + 1 then -1 else 0) (fP' := fun x => if x < t + 1 then -1 else 0) (fun i _ => by
          have e : (if i = t then (-1 : Int) else if i < t then -1 else 0) = if i < t + 1 then -1 else 0 := by split <;> split <;> (try split) <;> omega
          exact ⟨e, e, e, rfl, rfl⟩) (fun i _ => ⟨rfl, rfl⟩))
        clear hf
        go_wp2_with fail
        go_region
        go_wp2_with fail
        exact ⟨⟨t + 1, by omega, by go_num, HN⟩, by simp [intOf]; omega⟩
        -->
      · obtain rfl : t = s := by omega
        have HT := Lib.hid (hf.out.congr (fL' := fun _ => -1) (fR' := fun _ => -1) (fP' := fun _ => -1) (fZ' := fun _ => 0) (fun i hi => ⟨if_pos hi, if_pos hi, if_pos hi, rfl, rfl⟩) (fun i _ => ⟨rfl, rfl⟩))
        clear hf hlt ht m1 m2 m3 m1' m2' m3' n1 n2 n3 n1' n2' n3'
        go_wp2_with fail
        go_loopw [66] (fun i wr => ∃ k : Nat, k ≤ n ∧ i = .int .i64 k ∧ Hid (TT w1.drew n t Tb L R P H Z G (fun _ => -1) (fun _ => -1) (fun _ => -1) (fun _ => 0) (fun x => if x < k then 1 else 0) (fun x => if x < k then x else 0) (fun x => if x < k then x else 0) wr)) (fun i _ => n - (intOf i).toNat)
        case atStart => exact ⟨0, Nat.zero_le _, rfl, Lib.hid (HT.out.congr (fun i _ => ⟨rfl, rfl, rfl, rfl, (if_neg (Nat.not_lt_zero i)).symm⟩) (fun i _ => ⟨(if_neg (Nat.not_lt_zero i)).symm, (if_neg (Nat.not_lt_zero i)).symm⟩))⟩
        case round =>
          clear HT
          obtain ⟨k, hk, rfl, hf⟩ := hrel
          by_cases hlt : k < n
          ·
            --<
            obtain ⟨_, _, _, _, _, s5⟩ := hf.out.cells
            have hkt : k < t := by omega
            have d1 := hf.out.rZ.cell hkt
            have d2 := hf.out.rG.c0 hlt
            have d3 := hf.out.rG.c1 hlt
            have z1 := hf.out.rZ.frozen k
            have z2 := hf.out.rG.frozen (k * 2)
            have z3 := hf.out.rG.frozen (k * 2 + 1)
            rw [if_neg (Nat.lt_irrefl k)] at d1 d2 d3
            have g1 := HA.out.gz
            have g2 := Ne.symm g1
            have HN := Lib.hid ((((hf.out.setZ HA.out k 1).setG0 HA.out k k).setG1 HA.out k k).congr (fL' := fun _ => -1) (fR' := fun _ => -1) (fP' := fun _ => -1) (fH' := fun _ => 0) (fZ' := fun x => if x < k + 1 then 1 else 0) (up' := fun x => if x < k + 1 then x else 0) (tp' := fun x => if x < k + 1 then x else 0) (fun i _ => by
              have e : (if i = k then (1 : Int) else if i < k then 1 else 0) = if i < k + 1 then 1 else 0 := by split <;> split <;> (try split) <;> omega
              exact ⟨rfl, rfl, rfl, rfl, e⟩) (fun i _ => by
              have e : put (fun x => if x < k then x else 0) k k i = if i < k + 1 then i else 0 := by unfold put; dsimp only; split <;> split <;> (try split) <;> omega
              exact ⟨e, e⟩))
            clear hf
            go_wp2_with fail
            exact ⟨⟨k + 1, by omega, by go_num, HN⟩, by simp [intOf]; omega⟩
            -->
          · obtain rfl : k = n := by omega
            obtain ⟨p, hp⟩ : ∃ p : Nat → Nat, (fun i => nat u (sel (fl (nat u) (nat v) o m) i)) = p := ⟨_, rfl⟩
            obtain ⟨q, hq⟩ : ∃ q : Nat → Nat, (fun i => nat v (sel (fl (nat u) (nat v) o m) i)) = q := ⟨_, rfl⟩
            obtain ⟨h, hh⟩ : ∃ h : Nat → Int, (fun i => x (sel (fl (nat u) (nat v) o m) i)) = h := ⟨_, rfl⟩
            have HMr := Lib.hid (fl_mrg (p := nat u) (q := nat v) (o := o) (m := m) (n := k) fun i hi => ⟨(Hg.out _ (hb.lt hi)).2.2.1, (Hg.out _ (hb.lt hi)).2.2.2⟩)
            rw [hp, hq, hc] at HMr
            have HEd := Lib.hid (show ∀ i, i < c → ∀ W, Only [] w1 W → ∃ b off b0 o0, A = some ⟨b, off, none⟩ ∧ B = some ⟨b0, o0, none⟩ ∧ W.cell? ⟨b0, o0 + i, none⟩ = some (.int .i64 (sel (fl (nat u) (nat v) o m) i : Nat)) ∧ sel (fl (nat u) (nat v) o m) i < m ∧
                W.cell? ⟨b, off + sel (fl (nat u) (nat v) o m) i * 3, none⟩ = some (.int .i64 (p i)) ∧ W.cell? ⟨b, off + sel (fl (nat u) (nat v) o m) i * 3 + 1, none⟩ = some (.int .i64 (q i)) ∧ W.cell? ⟨b, off + sel (fl (nat u) (nat v) o m) i * 3 + 2, none⟩ = some (.int .i64 (h i)) from fun i hi W hW => by
              obtain ⟨b0, o0, hB, cB⟩ := (HIc.out.only hW).cell hi
              have hm2 := fl_mem (p := nat u) (q := nat v) (o := o) hb.lt (Nat.le_refl _) (sel_at (l := fl (nat u) (nat v) o m) (by rw [hc]; exact hi))
              obtain ⟨b, off, hA2, _, e0, e1, e2⟩ := (HE.out.only ((((Only.refl [] w).alloc _).trans HO1.out).trans hW)).cell hm2
              obtain ⟨hu, hv, _, _⟩ := Hg.out _ hm2
              refine ⟨b, off, b0, o0, hA2, hB, cB, hm2, ?_, ?_, ?_⟩
              · rw [e0, hu, ← hp]
              · rw [e1, hv, ← hq]
              · rw [e2, ← hh])
            have HT2 := Lib.hid (show ∃ up d, Forest k up (tlab p q 0) d ∧ TT w1.drew k t Tb L R P H Z G (tleft k p q 0) (tright k p q 0) (tpar k p q 0) (thei k h 0) (tsiz k p q 0) up (ttop k p q 0) wr from ⟨id, fun _ => 0, Forest.own _, hf.out.congr (fun i hi => by
              have e1 : tleft k p q 0 i = -1 := if_neg (by omega)
              have e2 : tright k p q 0 i = -1 := if_neg (by omega)
              have e3 : thei k h 0 i = 0 := if_neg (by omega)
              refine ⟨e1.symm, e2.symm, rfl, e3.symm, ?_⟩
              unfold tsiz tsz
              by_cases e : i < k
              · rw [if_pos e, if_pos (by omega), if_pos e]; rfl
              · rw [if_neg e, if_neg (by omega)]) (fun i hi => ⟨if_pos hi, if_pos hi⟩)⟩)
            have HPQH := Lib.hid (And.intro hp (And.intro hq (And.intro hh hc)))
            clear hf hlt hk HE HK hp hq hh
            go_wp2_with fail
            go_loopw [82] (fun y wr => ∃ i : Nat, i ≤ c ∧ y = .int .i64 i ∧ Hid (∃ up d, Forest k up (tlab p q i) d ∧ TT w1.drew k t Tb L R P H Z G (tleft k p q i) (tright k p q i) (tpar k p q i) (thei k h i) (tsiz k p q i) up (ttop k p q i) wr)) (fun y _ => c - (intOf y).toNat)
            case atStart => exact ⟨0, Nat.zero_le _, rfl, HT2⟩
            case round =>
              clear HT2
              obtain ⟨i, hi, rfl, hf⟩ := hrel
              by_cases hlt : i < c
              ·
                --<
                obtain ⟨up, d, hFo, hTT⟩ := hf.out
                have hOw := ((Only.refl [] w1).drewN 1).trans hTT.only
                obtain ⟨b, off, b0, o0, rfl, rfl, cB, ham, e0, e1, e2⟩ := HEd.out i hlt wr hOw
                have HEc := Lib.hid (show ∀ W, Only [] w1 W → W.cell? ⟨b, off + sel (fl (nat u) (nat v) o m) i * 3, none⟩ = some (.int .i64 (p i)) ∧ W.cell? ⟨b, off + sel (fl (nat u) (nat v) o m) i * 3 + 1, none⟩ = some (.int .i64 (q i)) ∧ W.cell? ⟨b, off + sel (fl (nat u) (nat v) o m) i * 3 + 2, none⟩ = some (.int .i64 (h i)) from fun W hW => by
                  obtain ⟨b', off', b0', o0', hA', hB', _, _, k0, k1, k2⟩ := HEd.out i hlt W hW
                  cases hA'
                  exact ⟨k0, k1, k2⟩)
                obtain ⟨hp1, hq1, hpq1⟩ := HMr.out i hlt
                have HC1 := Lib.hid (fun W (hW : Only [] wr W) => ufind_any G k k (p i) up (tlab p q i) d (ttop k p q i) W (hTT.rG.only hW (by simp)) hFo hp1)
                have HC2 := Lib.hid (fun W up2 (hF2 : Forest k up2 (tlab p q i) d) (hR2 : Row2 W G k up2 (ttop k p q i)) => ufind_any G k k (q i) up2 (tlab p q i) d (ttop k p q i) W hR2 hF2 hq1)
                have HTT := Lib.hid (And.intro hFo hTT)
                have HPQ := Lib.hid (And.intro (show tA p q i = min (tlab p q i (p i)) (tlab p q i (q i)) from rfl) (show tB p q i = max (tlab p q i (p i)) (tlab p q i (q i)) from rfl))
                obtain ⟨a, ha⟩ : ∃ a, sel (fl (nat u) (nat v) o m) i = a := ⟨_, rfl⟩
                rw [ha] at cB ham e0 e1 e2 HEc
                obtain ⟨ya, hya⟩ : ∃ ya, p i = ya := ⟨_, rfl⟩
                obtain ⟨yb, hyb⟩ : ∃ yb, q i = yb := ⟨_, rfl⟩
                rw [hya] at e0 HC1 HEc HPQ
                rw [hyb] at e1 HC2 HEc HPQ
                obtain ⟨la, hla⟩ : ∃ la, tlab p q i ya = la := ⟨_, rfl⟩
                obtain ⟨lb, hlb⟩ : ∃ lb, tlab p q i yb = lb := ⟨_, rfl⟩
                rw [hla] at HC1 HPQ
                rw [hlb] at HC2 HPQ
                have HOw := Lib.hid hOw
                clear ha hya hyb hla hlb hFo hTT hf hp1 hq1 hpq1 e2 hOw
                have tok : True := trivial
                go_wp2_with fail
                go_region_held3 (fun w' => w'.cell? ⟨b, off + a * 3, none⟩ = some (.int .i64 ya) ∧ w'.cell? ⟨b, off + a * 3 + 1, none⟩ = some (.int .i64 yb)) (first | exact ⟨e0, e1⟩ | exact e0 | exact e1 | exact hS7 | exact hS7.1 | exact hS7.2 | exact hS8 | exact hS8.1 | exact hS8.2)
                  ((first
                    | (have _t := tok; go_at_call 13; refine (HC1.out _ ?_).mono ?_; (first | exact Only.refl _ _ | exact (Only.refl _ _).drewN 1); rintro e wC ⟨rfl, up1, hF1, hR1, hO1⟩; clear tok; have HF1 := Lib.hid hF1; have HR1 := Lib.hid hR1; have HO1' := Lib.hid (((Only.refl [G] wr).drewN 1).trans hO1); have hS7 : wC.cell? ⟨b, off + a * 3, none⟩ = some (.int .i64 ya) ∧ wC.cell? ⟨b, off + a * 3 + 1, none⟩ = some (.int .i64 yb) := ⟨(HEc.out wC (HOw.out.to HO1'.out (fun g hg hl => by have := HA.out.gg; simp at hg; simp at this; omega))).1, (HEc.out wC (HOw.out.to HO1'.out (fun g hg hl => by have := HA.out.gg; simp at hg; simp at this; omega))).2.1⟩; clear hF1 hR1 hO1)
                    | (go_at_call 13; refine (HC2.out _ _ HF1.out HR1.out).mono ?_; rintro e wD ⟨rfl, up2, hF2, hR2, hO2⟩; have HF2 := Lib.hid hF2; have HR2 := Lib.hid hR2; have HO2 := Lib.hid (HO1'.out.trans hO2); have hS8 : wD.cell? ⟨b, off + a * 3, none⟩ = some (.int .i64 ya) ∧ wD.cell? ⟨b, off + a * 3 + 1, none⟩ = some (.int .i64 yb) := ⟨(HEc.out wD (HOw.out.to HO2.out (fun g hg hl => by have := HA.out.gg; simp at hg; simp at this; omega))).1, (HEc.out wD (HOw.out.to HO2.out (fun g hg hl => by have := HA.out.gg; simp at hg; simp at this; omega))).2.1⟩; clear hF2 hR2 hO2)))
                have HTD := Lib.hid (HTT.out.2.uni HA.out HO2.out HR2.out)
                have HEw := Lib.hid ((HEc.out wD (HOw.out.to HO2.out (fun g hg hl => by have := HA.out.gg; simp at hg; simp at this; omega))).2.2)
                obtain ⟨g1, g2, g3, g4, g5⟩ := HMr.out.ab hlt
                obtain ⟨t1, t2, t3, t4, t5, t6, t7, t8⟩ := HMr.out.inner hlt
                have HMk := Lib.hid (And.intro g4 (And.intro g5 (HMr.out.labs (Nat.le_of_lt hlt))))
                obtain ⟨am, ham'⟩ : ∃ am, tA p q i = am := ⟨_, rfl⟩
                obtain ⟨bm, hbm'⟩ : ∃ bm, tB p q i = bm := ⟨_, rfl⟩
                simp only [ham', hbm'] at HPQ g1 g2 g3 t1 t2 t3 t4 t5 t8
                have q1 := HTD.out.rG.c1 g2
                have q2 := HTD.out.rG.c1 g3
                obtain ⟨lf, hlf⟩ : ∃ lf, ttop k p q i am = lf := ⟨_, rfl⟩
                obtain ⟨rg, hrg⟩ : ∃ rg, ttop k p q i bm = rg := ⟨_, rfl⟩
                simp only [hlf, hrg] at q1 q2 t1 t2 t3 t4 t5 t8
                have HAb := Lib.hid (And.intro ham' (And.intro hbm' (And.intro hlf hrg)))
                obtain ⟨xn, hxn⟩ : ∃ xn, k + i = xn := ⟨_, rfl⟩
                rw [show (k : Int) + (i : Int) = (xn : Int) by omega]
                have HXn := Lib.hid hxn
                simp only [hxn] at t1 t2 t8
                have hxt : xn < t := by omega
                have HTs := Lib.hid t8
                have hne := t3
                clear hS7 hS8 e0 e1 HC1 HC2 HF1 HR1 HO1' HR2 HO2 HTT ham' hbm' hlf hrg t3 t4 t5 t6 t7 t8 g4 g5 hxn cB
                go_upto_region 24 with (fail)
                rw [show min (la : Int) (lb : Int) = (am : Int) from by have := HPQ.out.1; omega, show max (la : Int) (lb : Int) = (bm : Int) from by have := HPQ.out.2; omega]
                go_quiet (fail)
                go_upto_region 25 with (fail)
                obtain ⟨WE, hWE⟩ : ∃ WE, wD.drewN nq = WE := ⟨_, rfl⟩
                rw [hWE]
                have HTE := Lib.hid (TT.to (HTD.out.drewN nq) hWE)
                have HEg := Lib.hid (fun W (hW : Only [] w1.drew W) => HEc.out W (((Only.refl [] w1).drewN 1).trans hW))
                have hl1 := HA.out.tl
                have hl2 := HA.out.tr
                have hl3 := HA.out.lr
                have hl1' := Ne.symm hl1
                have hl2' := Ne.symm hl2
                have hl3' := Ne.symm hl3
                obtain ⟨_, s1, s2, _, _, _⟩ := HTE.out.cells
                have d1 := HTE.out.rL.cell hxt
                have d2 := HTE.out.rR.cell hxt
                have z1 := HTE.out.rL.frozen xn
                have z2 := HTE.out.rR.frozen xn
                clear hWE HTD HEw HEc q1 q2
                go_region
                go_upto_region 26 with (fail)
                obtain ⟨WF, hWF⟩ : ∃ WF, ((WE.setCell ⟨L, xn, none⟩ (.int .i64 lf)).setCell ⟨R, xn, none⟩ (.int .i64 rg)).drew = WF := ⟨_, rfl⟩
                rw [hWF]
                have HTF := Lib.hid (TT.to ((((HTE.out.setL HA.out xn lf).setR HA.out xn rg).drewN 1)) hWF)
                clear hWF HTE s1 s2 d1 d2 z1 z2 hl1 hl2 hl3 hl1' hl2' hl3'
                have hl1 := HA.out.tp
                have hl1' := Ne.symm hl1
                have hne' := Ne.symm hne
                obtain ⟨_, _, _, s3, _, _⟩ := HTF.out.cells
                have hlt1 : lf < t := by omega
                have hlt2 : rg < t := by omega
                have d1 := HTF.out.rP.cell hlt1
                have d2 := HTF.out.rP.cell hlt2
                have z1 := HTF.out.rP.frozen lf
                have z2 := HTF.out.rP.frozen rg
                go_region
                go_upto_region 27 with (fail)
                obtain ⟨WG, hWG⟩ : ∃ WG, ((WF.setCell ⟨P, lf, none⟩ (.int .i64 xn)).setCell ⟨P, rg, none⟩ (.int .i64 xn)).drew = WG := ⟨_, rfl⟩
                rw [hWG]
                have HTG := Lib.hid (TT.to ((((HTF.out.setP HA.out lf xn).setP HA.out rg xn).drewN 1)) hWG)
                clear hWG HTF s3 d1 d2 z1 z2 hl1 hl1' hne hne'
                obtain ⟨_, _, _, _, s4, _⟩ := HTG.out.cells
                have e2 := (HEg.out WG HTG.out.only).2.2
                have d1 := HTG.out.rH.cell hxt
                have z1 := HTG.out.rH.frozen xn
                obtain ⟨hi', hhi⟩ : ∃ hi', h i = hi' := ⟨_, rfl⟩
                rw [hhi] at e2
                have HHi := Lib.hid hhi
                clear hhi
                go_region
                go_upto_region 28 with (fail)
                obtain ⟨WH, hWH⟩ : ∃ WH, (WG.setCell ⟨H, xn, none⟩ (.int .i64 hi')).drew = WH := ⟨_, rfl⟩
                rw [hWH]
                have HTH := Lib.hid (TT.to (((HTG.out.setH HA.out xn hi').drewN 1)) hWH)
                clear hWH HTG s4 e2 d1 z1
                obtain ⟨_, _, _, _, _, s5⟩ := HTH.out.cells
                have d1 := HTH.out.rZ.cell hlt1
                have d2 := HTH.out.rZ.cell hlt2
                have d3 := HTH.out.rZ.cell hxt
                have z1 := HTH.out.rZ.frozen xn
                have hsl := tsz_le (n := k) p q xn (by omega)
                rw [HTs.out] at hsl
                rw [show tsiz k p q i lf = ((tsz k p q lf : Nat) : Int) from if_pos (by have := HXn.out; omega)] at d1
                rw [show tsiz k p q i rg = ((tsz k p q rg : Nat) : Int) from if_pos (by have := HXn.out; omega)] at d2
                obtain ⟨sl, hsl'⟩ : ∃ sl, tsz k p q lf = sl := ⟨_, rfl⟩
                obtain ⟨sr, hsr'⟩ : ∃ sr, tsz k p q rg = sr := ⟨_, rfl⟩
                rw [hsl'] at d1 hsl HTs
                rw [hsr'] at d2 hsl HTs
                clear hsl' hsr'
                go_region
                go_upto_region 29 with (fail)
                obtain ⟨WI, hWI⟩ : ∃ WI, (WH.setCell ⟨Z, xn, none⟩ (.int .i64 ((sl : Int) + (sr : Int)))).drew = WI := ⟨_, rfl⟩
                rw [hWI]
                have HTI := Lib.hid (TT.to ((HTH.out.setZ HA.out xn ((sl : Int) + (sr : Int))).drewN 1) hWI)
                clear hWI HTH s5 d1 d2 d3 z1
                have d1 := HTI.out.rG.c0 g3
                have d2 := HTI.out.rG.c1 g2
                have z1 := HTI.out.rG.frozen (bm * 2)
                have z2 := HTI.out.rG.frozen (am * 2 + 1)
                have o1 : ¬ am * 2 + 1 = bm * 2 := by omega
                have o2 : ¬ bm * 2 = am * 2 + 1 := by omega
                clear hsl hlt1 hlt2 t1 t2
                have HN := Lib.hid (TT.merge HTI.out HA.out HAb.out.1 HAb.out.2.1 HAb.out.2.2.1 HAb.out.2.2.2 HXn.out HHi.out HTs.out)
                have HF := Lib.hid (forest_merge HF2.out HAb.out.1 HAb.out.2.1 g2 g3 HMk.out.1 HMk.out.2.1 g1)
                clear HTI HF2 HMk HAb HXn HHi HTs HEg hxt
                go_region
                go_wp2_with fail
                exact ⟨⟨i + 1, by omega, by go_num, Lib.hid ⟨_, _, HF.out, HN.out⟩⟩, by simp [intOf]; omega⟩
                -->
              · obtain rfl : i = c := by omega
                obtain ⟨up, d, hFo, hTT⟩ := hf.out
                have hOw := ((Only.refl [] w1).drewN 1).trans hTT.only
                have hge := HA.out.ge
                have hsz1 : w.heap.size + 1 ≤ w1.heap.size := by have := HO1.out.size; rw [World.size_alloc] at this; exact this
                have hsz2 : w1.drew.heap.size = w1.heap.size := rfl
                have k0 : wr.heap[w.heap.size]? = some (.cells #[.int .i64 0, .slice none 0 0, .slice none 0 0, .slice none 0 0, .slice none 0 0, .slice none 0 0] 33 (0, 0)) :=
                  (hOw.block w.heap.size (by omega) (by simp)).trans ((HO1.out.block w.heap.size (by simp) (by simp)).trans (heap_alloc_new w _))
                obtain ⟨s0, s1, s2, s3, s4, s5⟩ := hTT.cells
                obtain ⟨TR, hTR⟩ : ∃ TR, w.heap.size = TR := ⟨_, rfl⟩
                rw [hTR] at k0 hsz1 ⊢
                have f0 := cell_of_heap (i := 0) k0 rfl
                have f1 := cell_of_heap (i := 1) k0 rfl
                have f2 := cell_of_heap (i := 2) k0 rfl
                have f3 := cell_of_heap (i := 3) k0 rfl
                have f4 := cell_of_heap (i := 4) k0 rfl
                have f5 := cell_of_heap (i := 5) k0 rfl
                have g0 := frozen_of_heap (i := 0) k0
                have g1 := frozen_of_heap (i := 1) k0
                have g2 := frozen_of_heap (i := 2) k0
                have g3 := frozen_of_heap (i := 3) k0
                have g4 := frozen_of_heap (i := 4) k0
                have g5 := frozen_of_heap (i := 5) k0
                have HTT := Lib.hid hTT
                have HOw := Lib.hid hOw
                clear hFo hTT hOw HEd hmk
                go_wp2_with fail
                obtain ⟨W5, hW5⟩ : ∃ W5, (((((wr.setCell ⟨TR, 0, none⟩ (.int .i64 k)).setCell ⟨TR, 1, none⟩ (.slice (some ⟨L, 0, none⟩) t t)).setCell ⟨TR, 2, none⟩ (.slice (some ⟨R, 0, none⟩) t t)).setCell ⟨TR, 3, none⟩ (.slice (some ⟨P, 0, none⟩) t t)).setCell ⟨TR, 4, none⟩ (.slice (some ⟨H, 0, none⟩) t t)).setCell ⟨TR, 5, none⟩ (.slice (some ⟨Z, 0, none⟩) t t) = W5 := ⟨_, rfl⟩
                rw [hW5]
                obtain ⟨k5, hO5⟩ := six_set k0 hW5
                have HO5 := Lib.hid (((((Only.refl [] w).alloc _).trans HO1.out).trans HOw.out).to hO5 fun g hg hl => by simp at hg; omega)
                have HTI := Lib.hid (show TIn W5 k i p q h t L R P H Z from ⟨⟨HMr.out, fun a b hab hb' => by
                  obtain ⟨_, _, e3, e4⟩ := HPQH.out
                  rw [← e3]
                  exact fl_sorted hb hab (by rw [e4]; exact hb'), by omega⟩, by omega,
                  HTT.out.rL.only hO5 (by simp; omega), HTT.out.rR.only hO5 (by simp; omega), HTT.out.rP.only hO5 (by simp; omega), HTT.out.rH.only hO5 (by simp; omega), HTT.out.rZ.only hO5 (by simp; omega)⟩)
                clear f0 f1 f2 f3 f4 f5 g0 g1 g2 g3 g4 g5 k0 hW5 hO5 HO1 HOw HTT s0 s1 s2 s3 s4 s5 HA HMr hge
                have f0 := cell_of_heap (i := 0) k5 rfl
                have f1 := cell_of_heap (i := 1) k5 rfl
                have f2 := cell_of_heap (i := 2) k5 rfl
                have f3 := cell_of_heap (i := 3) k5 rfl
                have f4 := cell_of_heap (i := 4) k5 rfl
                have f5 := cell_of_heap (i := 5) k5 rfl
                simp only [List.getElem_toArray, List.getElem_cons_zero, List.getElem_cons_succ] at f0 f1 f2 f3 f4 f5
                clear k5
                refine bodyPost_ret (v := .tuple #[treeV k t L R P H Z, .int .i64 0]) (by simp [results, Tryd.results7, go_sem, f0, f1, f2, f3, f4, f5, treeV, treeCells]) rfl ⟨HO5.out, .inr ⟨rfl, k, o, i, t, L, R, P, H, Z, rfl, hb, ?_, ?_, rfl, ?_⟩⟩
                · exact HPQH.out.2.2.2
                · exact fun j hj => ⟨(Hg.out j hj).2.2.1, (Hg.out j hj).2.2.2⟩
                · obtain ⟨e1, e2, e3, _⟩ := HPQH.out
                  rw [e1, e2, e3]
                  exact HTI.out

end Go.Proofs.YtipgbbhgmoehfaaDoor
