import Derived.Test.YtipgbbhgmoehfaaDoorYMG
import Derived.Test.YtipgbbhgmoehfaaDoorZ9
import Derived.Test.YtipgbbhgmoehfaaDoorYTB
/-
  minimax.New.
-/
namespace Go.Proofs.YtipgbbhgmoehfaaDoor
open Go.RowKit Go.Shelf
attribute [local go_sem] Oper.semAt_some
set_option linter.unusedSimpArgs false
set_option linter.unusedVariables false
set_option linter.unusedSectionVars false

theorem wp_lookup_run {P : Program} {o : Oper} {a : Act} {w : World} {K : Act → World → Prop} {Q : Exit → Act → World → Prop} {m key v : Value} (s x : Operand) (t : TypeId)
    (ho : o.op = .lookup t s x false) (hs : a.eval s = m) (hx : a.eval x = key) (hr : (Instr.lookup t m key false).run P w = .ok v w) (h : K (a.put o.dst v) w) : Oper.wp P o a w K Q := by
  unfold Oper.wp
  simp [execOp, ho, hs, hx, hr, Result.andThen]
  exact h
theorem wp_update_run {P : Program} {o : Oper} {a : Act} {w w' : World} {K : Act → World → Prop} {Q : Exit → Act → World → Prop} {m key v : Value} (s x y : Operand) (t : TypeId)
    (ho : o.op = .mapUpdate t s x y) (hs : a.eval s = m) (hx : a.eval x = key) (hy : a.eval y = v) (hr : (Instr.mapUpdate t m key v).run P w = .ok () w') (h : K (a.put o.dst undef) w') : Oper.wp P o a w K Q := by
  unfold Oper.wp
  simp [execOp, ho, hs, hx, hy, hr, Result.andThen]
  exact h
theorem cell_two_new' (w : World) (x y : Value) (t : TypeId) : ∀ j a, [x, y][j]? = some a → (w.alloc (.cells #[x, y] t)).cell? ((⟨w.heap.size, 0, none⟩ : Addr).add j) = some a := by
  intro j a hj
  have hj5 : j < 2 := by
    have := (List.getElem?_eq_some_iff.1 hj).1
    simpa using this
  have h : j = 0 ∨ j = 1 := by omega
  rcases h with rfl | rfl <;> (simp at hj; subst hj; simp [Addr.add])
theorem arm_round {W : World} {base b n : Nat} (h : AGrp W base b n) (hn : n ≤ 65536) {key : Int} (hw : (Lit.int .i64 key).wf = true) (x y : Int) (hbase : base ≤ W.heap.size) :
    ∃ v v' w1 w2, (∀ W', W.grownBy W' none → (Instr.lookup 56 (.map (some b)) (.int .i64 key) false).run Tryd.prog W' = .ok v W') ∧
      (Builtin.append_ #[59, 59] 59 #[v, .slice (some ⟨W.heap.size, 0, none⟩) 1 1]).run Tryd.prog (W.alloc (.cells #[.int .i64 x, .int .i64 y] 61)).drew = .ok v' w1 ∧
      (Instr.mapUpdate 56 (.map (some b)) (.int .i64 key) v').run Tryd.prog w1 = .ok () w2 ∧ AGrp w2 base b (n + 1) ∧
      (∀ W0, Only [b] W0 W → W0.heap.size ≤ base → Only [b] W0 w1 ∧ Only [b] W0 w2) := by
  obtain ⟨i1, gi, gz0, gz1, gz2⟩ := info_parts infoArm
  obtain ⟨v, m, xs, h1, h2, h3, h4⟩ := h.at (by unfold maxLen; omega) hw
  obtain ⟨v', w1, hrun, hown', hg, _, hat⟩ := run_append_own_at (P := Tryd.prog) (w := (W.alloc (.cells #[.int .i64 x, .int .i64 y] 61)).drew) base 59 59 61 i1 (.agg #[.int .i64 0, .int .i64 0]) 2 16 Tryd.underlying59 gi gz0 gz1 gz2 rfl (by decide) v m xs (h2.alloc _)
    ⟨W.heap.size, 0, none⟩ 1 1 [.int .i64 x, .int .i64 y] rfl (cell_two_new' W _ _ _) (by simp [Value.oneCell']) (by unfold maxLen; omega) (by omega) (by show base ≤ (W.alloc _).heap.size; rw [World.size_alloc]; omega)
  have hs1 : (W.alloc (.cells #[.int .i64 x, .int .i64 y] 61)).heap.size = W.heap.size + 1 := World.size_alloc _ _
  have hg1 : W.grownBy w1 v.ownBlock := by
    refine ⟨hg.os, hg.tape, hg.output, ?_, fun k hk hne => ?_⟩
    · have := hg.size
      have h0 : (W.alloc (.cells #[.int .i64 x, .int .i64 y] 61)).heap.size ≤ w1.heap.size := this
      omega
    · exact (hg.block k (by show k < (W.alloc _).heap.size; omega) hne).trans (Below.heap_alloc _ _ _ hk)
  obtain ⟨w2, hr2, hG, hg2⟩ := h4 w1 v' hg1 ⟨m + 1, _, by omega, hown'⟩ (by
    rcases hat with e | e
    · exact .inl e
    · exact .inr ⟨_, e, by show W.heap.size ≤ (W.alloc _).heap.size; omega⟩)
  refine ⟨v, v', w1, w2, h1, hrun, hr2, hG, fun W0 hO h0 => ?_⟩
  have hO1 : Only [b] W0 w1 := by
    refine ⟨hg1.os.trans hO.os, hg1.tape.trans hO.tape, hg1.output.trans hO.output, Nat.le_trans hO.size hg1.size, fun k hk hn => ?_⟩
    refine (hg1.block k (Nat.lt_of_lt_of_le hk hO.size) fun e => ?_).trans (hO.block k hk hn)
    have := (h2.lt k e.symm).1
    omega
  refine ⟨hO1, ⟨hg2.os.trans hO1.os, hg2.tape.trans hO1.tape, hg2.output.trans hO1.output, Nat.le_trans hO1.size hg2.size, fun k hk hn => ?_⟩⟩
  exact (hg2.block k (Nat.lt_of_lt_of_le hk hO1.size) fun e => hn (by cases e; exact List.mem_cons_self)).trans (hO1.block k hk hn)
theorem run_makeMapA (w : World) : (Instr.makeMap 56 none).run Tryd.prog w = .ok (.map (some w.heap.size)) (w.alloc (.map #[] 0)) := by
  simp [Instr.makeMap, run_underlying Tryd.underlying56, asInt]
def MNewPost (n : Int) (m : Nat) (u v x : Nat → Int) (k : Int) (w : World) (e : Ending) (w' : World) : Prop := Only [] w w' ∧ ((k ≠ 0 ∧ e = .returned (.tuple #[.pointer none, .int .i64 k])) ∨
  (k = 0 ∧ ∃ (n' : Nat) (o : Nat → Nat) (c F : Nat), n = (n' : Int) ∧ ByWeight m x o ∧ (fl (nat u) (nat v) o m).length = c ∧ (∀ j, j < m → nat u j < n' ∧ nat v j < n') ∧ e = .returned (.tuple #[.pointer (some ⟨F, 0, none⟩), .int .i64 0]) ∧
    FinAt w' F n' c (fun i => nat u (sel (fl (nat u) (nat v) o m) i)) (fun i => nat v (sel (fl (nat u) (nat v) o m) i)) (fun i => x (sel (fl (nat u) (nat v) o m) i))))
set_option maxRecDepth 100000 in
set_option maxHeartbeats 8000000 in
theorem MNew_any (n : Int) (A : Option Addr) (m cp : Nat) (u v x : Nat → Int) (w : World) (h : EdgesIn w A m u v x) (hT : Tab w) (k : Int) (hk : GCode n m u v k) : Calls Tryd.prog 6 #[.int .i64 n, .slice A m cp] w (MNewPost n m u v x k w) := by
  have HE := Lib.hid h
  have HTab := Lib.hid hT
  have CB := Lib.hid (Build_any n A m cp u v x w h k hk)
  have CF := Lib.hid (fun W (hO : Only [] w W) => Forest_any n A m cp u v x W (h.only hO) k hk)
  clear h hT
  go_enter Tryd.func6, Tryd.ntmps6
  go_wp2_with fail
  refine CB.out.mono ?_
  rintro e w1 ⟨hO1, ⟨h0, rfl⟩ | ⟨rfl, n', o, c, s, L, R, P, H, Z, hn, hb, hc, hlt, rfl, hI⟩⟩
  · have q1 : (k != 0) = true := by simpa using h0
    have HO1 := Lib.hid hO1
    clear hO1 CB CF
    unfold zeroTree
    go_wp2_with fail
    go_ret2
    exact ⟨HO1.out.alloc _, .inl ⟨by simpa using q1, rfl⟩⟩
  have HO1 := Lib.hid hO1
  have HI := Lib.hid hI
  have HB := Lib.hid (And.intro hb (And.intro hc hlt))
  have HN := Lib.hid hn
  unfold treeV treeCells
  clear CB hO1 hI hb hc hlt hn
  go_upto_region 2 with (fail)
  obtain ⟨w2, hw2⟩ : ∃ w2, w1.alloc (.cells #[.int .i64 n', .slice (some ⟨L, 0, none⟩) s s, .slice (some ⟨R, 0, none⟩) s s, .slice (some ⟨P, 0, none⟩) s s, .slice (some ⟨H, 0, none⟩) s s, .slice (some ⟨Z, 0, none⟩) s s] 33) = w2 := ⟨_, rfl⟩
  rw [hw2]
  have hT6 : w2.heap[w1.heap.size]? = some (.cells #[.int .i64 n', .slice (some ⟨L, 0, none⟩) s s, .slice (some ⟨R, 0, none⟩) s s, .slice (some ⟨P, 0, none⟩) s s, .slice (some ⟨H, 0, none⟩) s s, .slice (some ⟨Z, 0, none⟩) s s] 33 (0, 0)) := hw2 ▸ heap_alloc_new w1 _
  have hO2 : Only [] w1 w2 := hw2 ▸ (Only.refl [] w1).alloc _
  obtain ⟨T6, hT6e⟩ : ∃ T6, w1.heap.size = T6 := ⟨_, rfl⟩
  rw [hT6e] at hT6 ⊢
  have HT6 := Lib.hid hT6
  have HI2 := Lib.hid (HI.out.only hO2)
  have HO2 := Lib.hid (HO1.out.trans hO2)
  clear hw2 hT6 hO2 hT6e HI HO1
  go_wp2_with fail
  refine (CF.out _ HO2.out).mono ?_
  rintro e w3 ⟨hO3, ⟨h0, rfl⟩ | ⟨_, o2, A2, c2, hb2, rfl, hF⟩⟩
  · exact absurd rfl h0
  have hT3 := (hO3.block _ (heap_lt HT6.out) (by simp)).trans HT6.out
  have HT3 := Lib.hid hT3
  have HI3 := Lib.hid (HI2.out.only hO3)
  have HO3 := Lib.hid (HO2.out.trans hO3)
  have HF := Lib.hid hF
  have f3 := cell_of_heap (i := 3) hT3 rfl
  replace f3 : w3.cell? ⟨T6, 3, none⟩ = some (.slice (some ⟨P, 0, none⟩) s s) := f3
  obtain ⟨b1, b2, b3, b4⟩ := HI3.out.bounds
  have hup : Up (tpar n' (fun i => nat u (sel (fl (nat u) (nat v) o m) i)) (fun i => nat v (sel (fl (nat u) (nat v) o m) i)) c) s := by
    rw [← HI3.out.hs]; exact HI3.out.ok.mrg.up
  have CL := Lib.hid (Lift_any P s _ HI3.out.rP hup (by omega))
  have HB2 := Lib.hid hb2
  clear hT3 hO3 hF hup HI2 HT6 HO2 CF hb2
  go_wp2_with fail
  refine CL.out.mono ?_
  rintro e w4 ⟨TB, DP, J, rfl, hTb, hTB, hO4⟩
  have hT4 := (hO4.block _ (heap_lt HT3.out) (by simp)).trans HT3.out
  have HT4 := Lib.hid hT4
  have HI4 := Lib.hid (HI3.out.only hO4)
  have HO4 := Lib.hid (HO3.out.trans hO4)
  have HTb := Lib.hid hTb
  have HF4 := Lib.hid (IntsIn.only HF.out hO4)
  obtain ⟨f0, f1, f2, f3', f4, f5⟩ : w4.cell? ⟨T6, 0, none⟩ = some (.int .i64 n') ∧ w4.cell? ⟨T6, 1, none⟩ = some (.slice (some ⟨L, 0, none⟩) s s) ∧ w4.cell? ⟨T6, 2, none⟩ = some (.slice (some ⟨R, 0, none⟩) s s) ∧ w4.cell? ⟨T6, 3, none⟩ = some (.slice (some ⟨P, 0, none⟩) s s) ∧ w4.cell? ⟨T6, 4, none⟩ = some (.slice (some ⟨H, 0, none⟩) s s) ∧ w4.cell? ⟨T6, 5, none⟩ = some (.slice (some ⟨Z, 0, none⟩) s s) :=
    ⟨cell_of_heap (i := 0) hT4 rfl, cell_of_heap (i := 1) hT4 rfl, cell_of_heap (i := 2) hT4 rfl, cell_of_heap (i := 3) hT4 rfl, cell_of_heap (i := 4) hT4 rfl, cell_of_heap (i := 5) hT4 rfl⟩
  clear f3 hT4 hO4 hTb hTB CL HI3 HT3 HO3 HF
  have hmm := run_makeMapA
  go_upto_region 11 with (fail)
  obtain ⟨w5, hw5⟩ : ∃ w5, (w4.alloc (.map #[] 0)).alloc (.cells #[.pointer (some ⟨TB, 0, none⟩), .int .i64 n', .slice (some ⟨L, 0, none⟩) s s, .slice (some ⟨R, 0, none⟩) s s, .slice (some ⟨P, 0, none⟩) s s, .slice (some ⟨H, 0, none⟩) s s, .slice (some ⟨Z, 0, none⟩) s s, .slice A2 (fl (nat u) (nat v) o2 m).length c2, .map (some w4.heap.size)] 58) = w5 := ⟨_, rfl⟩
  rw [hw5]
  have hM : w5.heap[w4.heap.size]? = some (.map #[] 0) := by
    rw [← hw5]
    exact (Below.heap_alloc _ _ _ (by rw [World.size_alloc]; omega)).trans (World.alloc_heap_new w4 _)
  have hTR : w5.heap[w4.heap.size + 1]? = some (.cells #[.pointer (some ⟨TB, 0, none⟩), .int .i64 n', .slice (some ⟨L, 0, none⟩) s s, .slice (some ⟨R, 0, none⟩) s s, .slice (some ⟨P, 0, none⟩) s s, .slice (some ⟨H, 0, none⟩) s s, .slice (some ⟨Z, 0, none⟩) s s, .slice A2 (fl (nat u) (nat v) o2 m).length c2, .map (some w4.heap.size)] 58 (0, 0)) := by
    rw [← hw5]
    have := heap_alloc_new (w4.alloc (.map #[] 0)) (.cells #[.pointer (some ⟨TB, 0, none⟩), .int .i64 n', .slice (some ⟨L, 0, none⟩) s s, .slice (some ⟨R, 0, none⟩) s s, .slice (some ⟨P, 0, none⟩) s s, .slice (some ⟨H, 0, none⟩) s s, .slice (some ⟨Z, 0, none⟩) s s, .slice A2 (fl (nat u) (nat v) o2 m).length c2, .map (some w4.heap.size)] 58)
    rwa [World.size_alloc] at this
  have hO5 : Only [] w4 w5 := hw5 ▸ ((Only.refl [] w4).alloc _).alloc _
  have hs5 : w5.heap.size = w4.heap.size + 2 := by rw [← hw5, World.size_alloc, World.size_alloc]
  have hsl := same_len HB2.out HB.out.1 HB.out.2.2
  rw [HB.out.2.1] at hsl
  rw [hsl] at hTR HF4 ⊢
  have hMl : w.heap.size ≤ w4.heap.size := HO4.out.size
  obtain ⟨MB, hMB⟩ : ∃ MB, w4.heap.size = MB := ⟨_, rfl⟩
  have HMB := Lib.hid hMB
  rw [hMB] at hM hTR hs5 hMl ⊢
  have HM := Lib.hid (AGrp.empty (base := MB + 2) hM (by omega))
  have HTR := Lib.hid hTR
  have HO5 := Lib.hid hO5
  obtain ⟨lk, hlk⟩ : ∃ lk, fl (nat u) (nat v) o2 m = lk := ⟨_, rfl⟩
  have Hlk := Lib.hid (show ∀ j, j < c → sel lk j < m from fun j hj => by
    rw [← hlk]
    exact fl_mem (p := nat u) (q := nat v) (o := o2) HB2.out.lt (Nat.le_refl _) (sel_at (by rw [hsl]; exact hj)))
  rw [hlk] at HF4
  have HS5 := Lib.hid hs5
  clear hw5 hM hTR hO5 hmm f0 f1 f2 f3' f4 f5 hsl hlk hMB HT4 HB2 hs5
  go_wp2_with fail
  go_loopw [50] (fun y wr => ∃ j : Nat, j ≤ c ∧ y = .int .i64 j ∧ Hid (AGrp wr (MB + 2) MB (2 * j)) ∧ Hid (Only [MB] w5 wr)) (fun y _ => c - (intOf y).toNat)
  case atStart => exact ⟨0, Nat.zero_le _, rfl, HM, Lib.hid (Only.refl _ _)⟩
  case round =>
    clear HM
    obtain ⟨j, hj, rfl, HG, HO⟩ := hrel
    have hO4 := HO5.out.to HO.out (fun i hi hl => by simp at hi; have := HMB.out; omega)
    by_cases hlt : j < c
    · obtain ⟨b2, off2, rfl, g1⟩ := (HF4.out.only hO4).cell hlt
      obtain ⟨bl, offl, rfl, _, g2, g3, _⟩ := (HE.out.only (HO4.out.trans hO4)).cell (Hlk.out j hlt)
      have hwf := HE.out.wf _ (Hlk.out j hlt)
      have hml := Hlk.out j hlt
      obtain ⟨uu, huu⟩ : ∃ uu, u (sel lk j) = uu := ⟨_, rfl⟩
      obtain ⟨vv, hvv⟩ : ∃ vv, v (sel lk j) = vv := ⟨_, rfl⟩
      obtain ⟨si, hsi⟩ : ∃ si, sel lk j = si := ⟨_, rfl⟩
      rw [huu, hvv] at hwf
      rw [huu] at g2
      rw [hvv] at g3
      rw [hsi] at g1 g2 g3 hml
      have q1 : (j : Int) < (c : Int) := by omega
      have q2 : (si : Int) < (m : Int) := by omega
      have q3 : (0 : Int) ≤ (si : Int) := by omega
      have HW := Lib.hid hwf
      clear hO4 hwf huu hvv hsi
      go_wp2_with fail
      go_quiet (fail)
      go_wp2_with fail
      have hTRl : MB + 1 < w5.heap.size := heap_lt HTR.out
      obtain ⟨W1, hW1⟩ : ∃ W1, wr.drewN nq = W1 := ⟨_, rfl⟩
      have hOW : Only [MB] w5 W1 := hW1 ▸ HO.out.drewN nq
      have hG1 : AGrp W1 (MB + 2) MB (2 * j) := hW1 ▸ HG.out
      have hb5 := HO.out.size
      have hW1s : W1.heap.size = wr.heap.size := by rw [← hW1]; rfl
      have hS5 := HS5.out
      rw [hW1]
      obtain ⟨ve, ve', W2, W3, hl, hrun, hupd, hG3, hOs⟩ := arm_round hG1 (by omega) HW.out.1 (si : Int) vv (by omega)
      obtain ⟨hO2, hO3⟩ := hOs w5 hOW (by omega)
      have tc : ∀ W', Only [MB] w5 W' → W'.cell? ⟨MB + 1, 8, none⟩ = some (.map (some MB)) := fun W' hO' => cell_of_heap (i := 8) ((hO'.block _ hTRl (by simp)).trans HTR.out) rfl
      have e1 := tc _ hOW
      have e2 := tc _ (hOW.alloc (.cells #[.int .i64 (si : Int), .int .i64 vv] 61))
      have e3 := tc _ hO2
      have e4 := tc _ hO3
      have hl0 := hl W1.drew (by exact ⟨rfl, rfl, rfl, Nat.le_refl _, fun _ _ _ => rfl⟩)
      have hl1 := hl (W1.alloc (.cells #[.int .i64 (si : Int), .int .i64 vv] 61)).drew (by have hg := World.grownBy_alloc W1 (.cells #[.int .i64 (si : Int), .int .i64 vv] 61) none; exact ⟨hg.os, hg.tape, hg.output, hg.size, hg.block⟩)
      have HG3 := Lib.hid hG3
      have HO3 := Lib.hid hO3
      have HTC := Lib.hid tc
      have HLT := Lib.hid (And.intro hTRl (And.intro hS5 hb5))
      clear hl hOs hG1 hOW hO2 hO3 tc g1 g2 g3 q1 q2 hml hG3 HG HO hTRl hS5 hb5 hW1s hW1
      go_cut [50] from 64 to 95 (fun y wc => y = .int .i64 j ∧ Hid (AGrp wc (MB + 2) MB (2 * j + 1)) ∧ Hid (Only [MB] w5 wc))
      case first =>
        --[
        go_region_held3 (fun W' => W'.cell? ⟨MB + 1, 8, none⟩ = some (.map (some MB))) (first | exact e1 | exact e2 | exact e3 | exact e4) (first | (refine wp_lookup_run _ _ _ rfl rfl rfl hl0 ?_) | (refine wp_lookup_run _ _ _ rfl rfl rfl hl1 ?_) | ((rw [if_pos (by rfl)]; refine wp_append_run _ _ _ rfl rfl rfl hrun ?_)) | (refine wp_append_run _ _ _ rfl rfl rfl hrun ?_) | (refine wp_update_run _ _ _ _ rfl rfl rfl rfl hupd ?_))
        all_goals
          go_wp2
          go_meet
        all_goals exact ⟨rfl, HG3, HO3⟩
        --]
      case rest =>
        obtain ⟨rfl, HGc, HOc⟩ := hcut
        clear HG3 HO3 hl0 hl1 hrun hupd e1 e2 e3 e4
        obtain ⟨hTRl, hS5, hb5⟩ := HLT.out
        have hbc := HOc.out.size
        obtain ⟨xe, xe', W4, W5, hl, hrun, hupd, hG5, hOs⟩ := arm_round HGc.out (by omega) HW.out.2.1 (si : Int) uu (by omega)
        obtain ⟨hO4, hO5⟩ := hOs w5 HOc.out (by omega)
        have e1 := HTC.out _ HOc.out
        have e2 := HTC.out _ (HOc.out.alloc (.cells #[.int .i64 (si : Int), .int .i64 uu] 61))
        have e3 := HTC.out _ hO4
        have e4 := HTC.out _ hO5
        have hl0 := hl wc.drew (by exact ⟨rfl, rfl, rfl, Nat.le_refl _, fun _ _ _ => rfl⟩)
        have hl1 := hl (wc.alloc (.cells #[.int .i64 (si : Int), .int .i64 uu] 61)).drew (by have hg := World.grownBy_alloc wc (.cells #[.int .i64 (si : Int), .int .i64 uu] 61) none; exact ⟨hg.os, hg.tape, hg.output, hg.size, hg.block⟩)
        have HG5 := Lib.hid hG5
        have HO5' := Lib.hid hO5
        clear hl hOs hO4 hO5 hG5 hTRl hS5 hb5 hbc HGc HOc
        go_upto_region 16 with (fail)
        go_region_held3 (fun W' => W'.cell? ⟨MB + 1, 8, none⟩ = some (.map (some MB))) (first | exact e1 | exact e2 | exact e3 | exact e4) (first | (refine wp_lookup_run _ _ _ rfl rfl rfl hl0 ?_) | (refine wp_lookup_run _ _ _ rfl rfl rfl hl1 ?_) | ((rw [if_pos (by rfl)]; refine wp_append_run _ _ _ rfl rfl rfl hrun ?_)) | (refine wp_append_run _ _ _ rfl rfl rfl hrun ?_) | (refine wp_update_run _ _ _ _ rfl rfl rfl rfl hupd ?_))
        all_goals
          clear hl0 hl1 hrun hupd e1 e2 e3 e4
          go_wp2_with fail
          exact ⟨⟨j + 1, by omega, by go_num, Lib.hid (by rw [show 2 * (j + 1) = 2 * j + 1 + 1 by omega]; exact HG5.out), HO5'⟩, by simp [intOf]; omega⟩
    · obtain rfl : j = c := by omega
      have HOz := Lib.hid ((HO4.out.trans hO4).alloc (.cells #[.pointer (some ⟨MB + 1, 0, none⟩)] 63))
      have HFin := Lib.hid (show FinAt (wr.alloc (.cells #[.pointer (some ⟨MB + 1, 0, none⟩)] 63)) wr.heap.size n' j (fun i => nat u (sel (fl (nat u) (nat v) o m) i)) (fun i => nat v (sel (fl (nat u) (nat v) o m) i)) (fun i => x (sel (fl (nat u) (nat v) o m) i)) from
        ⟨MB + 1, TB, DP, s, L, R, P, H, Z, J, _, _, heap_alloc_new wr _, (Below.heap_alloc _ _ _ (by have := heap_lt HTR.out; have := HO.out.size; omega)).trans ((HO.out.block _ (heap_lt HTR.out) (by simp)).trans HTR.out),
          HTb.out.only (hO4.alloc _) (by simp) (by simp) (fun _ _ => by simp), HI4.out.only (hO4.alloc _), HTab.out.only HOz.out (by simp)⟩)
      clear hO4
      go_wp2_with fail
      go_ret2
      exact ⟨HOz.out, .inr ⟨rfl, n', o, j, wr.heap.size, HN.out, HB.out.1, HB.out.2.1, HB.out.2.2, rfl, HFin.out⟩⟩

end Go.Proofs.YtipgbbhgmoehfaaDoor
