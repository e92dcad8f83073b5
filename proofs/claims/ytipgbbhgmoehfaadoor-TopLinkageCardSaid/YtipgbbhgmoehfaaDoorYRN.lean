import Derived.Test.YtipgbbhgmoehfaaDoorYRE
import Derived.Test.YtipgbbhgmoehfaaDoorYRP
import Derived.Test.YtipgbbhgmoehfaaDoorYRY
import Derived.Test.YtipgbbhgmoehfaaDoorZ9
import Derived.Test.YtipgbbhgmoehfaaDoorYDM
import Derived.Test.YtipgbbhgmoehfaaDoorZ7
/-
  linkage.Run: single linkage.
-/
namespace Go.Proofs.YtipgbbhgmoehfaaDoor
open Go.RowKit Go.Shelf
attribute [local go_sem] Oper.semAt_some
set_option linter.unusedSimpArgs false
set_option linter.unusedVariables false
set_option linter.unusedSectionVars false

theorem run_eql_mix_nil (f : Fn) (b : Array Value) (w : World) : (binOp .eql 68 (.func f #[] b) .nilFunc).run Tryd.prog w = .ok (.bool false) w := by
  have h : ∀ d : Nat, (Op.equalIn (d + 1) 68 (.func f #[] b) .nilFunc).run Tryd.prog w = .ok false w := fun d => by
    simp [Op.equalIn, run_underlying Tryd.underlying68]
  simp only [binOp]
  simp [Op.equal, Op.maxDepth, h 9999]
attribute [local go_sem] run_eql_mix_nil
theorem copy_row {W : World} {B nn cp : Nat} {f : Nat → Int} (h : RowZ W 2 B nn f) (hn : nn ≤ 65536) (h1 : 1 ≤ nn) (ty : TypeId) :
    ∃ g c W', (Builtin.append_ #[24, 24] ty #[.slice none 0 0, .slice (some ⟨B, 0, none⟩) nn cp]).run Tryd.prog W = .ok (.slice (some ⟨g, 0, none⟩) nn c) W' ∧ RowZ W' 2 g nn f ∧ W.heap.size ≤ g ∧ Only [] W W' := by
  obtain ⟨i0, hi, hz0, hz1, hz2⟩ := infoI64
  obtain ⟨v', w1, hr, hown, hg, hnil⟩ := run_append_own (P := Tryd.prog) W W.heap.size 24 ty 2 i0 (.int .i64 0) 1 8 Tryd.underlying24 hi hz0 hz1 hz2 rfl (by decide) _ 0 [] (World.ownsRow_nil _ _ _ _)
    ⟨B, 0, none⟩ nn cp ((List.range nn).map fun i => .int .i64 (f i)) (by simp)
    (fun j y hj => by
      have hjn : j < nn := by
        have := (List.getElem?_eq_some_iff.1 hj).1
        simpa using this
      rw [Addr.add_lit, Nat.zero_add, h.cell hjn]
      simpa [hjn] using hj)
    (fun y hy => by obtain ⟨z, _, rfl⟩ := List.mem_map.1 hy; rfl) (by unfold maxLen; omega) (by omega) (by simp)
  obtain ⟨g, c, rfl, hg', hR, hc⟩ := row_of_ownc (f := fun i => .int .i64 (f i)) (n := nn) (by simpa using hown) (fun e => by have := (hnil.1 e).2; omega) (fun i hi => by simp [hi])
  refine ⟨g, c, w1, hr, hR, hg', ?_⟩
  exact only_of_below' (((Below.refl W.heap.size W)).grown hg (by simp) (by intro k hk; simp [Value.ownBlock] at hk))
theorem zero_sizes {k : Nat} (hk : k < 128) : Tryd.zeroCells74[3 + k]? = some (.int .i64 0) := by
  have h : (Tryd.zeroCells74.toList.drop 3).take 128 = List.replicate 128 (.int .i64 0) := by kernel_rfl
  have h2 := congrArg (fun l => l[k]?) h
  simp only [List.getElem?_take, List.getElem?_drop, List.getElem?_replicate, if_pos hk] at h2
  rw [← Array.getElem?_toList]
  exact h2
theorem new_clv (n BB cb : Nat) (i : Nat) (hi : i < 132) : ((((Tryd.zeroCells74.setIfInBounds 0 (.int .i64 n)).setIfInBounds 1 (.int .i64 1)).setIfInBounds 2 (.func (.func 29) #[] #[])).setIfInBounds 131 (.slice (some ⟨BB, 0, none⟩) (n * n) cb))[i]? = some (clv n (fun _ => 0) BB cb i) := by
  have hs : Tryd.zeroCells74.size = 132 := Tryd.zeroCells74_size
  unfold clv
  by_cases e0 : i = 0
  · subst e0
    rw [if_pos rfl]
    simp [Array.getElem?_setIfInBounds, hs]
  · rw [if_neg e0]
    by_cases e1 : i = 1
    · subst e1
      rw [if_pos rfl]
      simp [Array.getElem?_setIfInBounds, hs]
    · rw [if_neg e1]
      by_cases e2 : i = 2
      · subst e2
        rw [if_pos rfl]
        simp [Array.getElem?_setIfInBounds, hs]
      · rw [if_neg e2]
        by_cases e3 : i < 131
        · rw [if_pos e3]
          have h := zero_sizes (k := i - 3) (by omega)
          rw [show 3 + (i - 3) = i by omega] at h
          simp only [Array.getElem?_setIfInBounds, hs]
          rw [if_neg (by omega), if_neg (by omega), if_neg (by omega), if_neg (by omega), h]
          rfl
        · rw [if_neg e3]
          obtain rfl : i = 131 := by omega
          simp [Array.getElem?_setIfInBounds, hs]
def lenOfV : Value → Nat
  | .slice _ n _ => n
  | _ => 0
/-- A row of merges with these heights. -/
structure RowM (W : World) (base : Nat) (A : Option Addr) (cm t : Nat) (h : Nat → Int) (L : List Value) : Prop where
  own : W.ownsRow base 46 5 (.slice A t cm) t L
  at' : ∀ i, i < t → L[i * 5 + 2]? = some (.int .i64 (h i)) ∧ L[i * 5 + 3]? = some (.int .i64 1)
/-- The slots that a round of the loop of Run writes. -/
structure EV where
  (x13 x14 x15 x46 x47 x48 x49 x50 x51 x52 x53 x54 x55 x56 x57 x58 x59 x60 x61 x62 x63 x64 x65 x66 x67 x68 x69 x70 x71 x72 x73 x74 x75 x76 x77 x78 : Value)
theorem RowM.shut {W W' : World} {lo base cm t : Nat} {A : Option Addr} {h : Nat → Int} {L : List Value} (hr : RowM W base A cm t h L) (hs : Shut lo W W') : RowM W' base A cm t h L := by
  obtain ⟨⟨hl, h0 | ⟨g, cap, cur, e, hb, hh, r⟩⟩, at'⟩ := hr
  · exact ⟨⟨hl, .inl h0⟩, at'⟩
  · exact ⟨⟨hl, .inr ⟨g, cap, cur, e, hb, hs.cells _ _ _ _ hh, r⟩⟩, at'⟩
theorem Only.shut {w W W' : World} {lo : Nat} (h : Only [] w W) (hs : Shut lo W W') (hlo : w.heap.size ≤ lo) : Only [] w W' :=
  ⟨hs.os.trans h.os, hs.tape.trans h.tape, hs.output.trans h.output, by rw [hs.size]; exact h.size, fun k hk hn => (hs.low k (by omega)).trans (h.block k hk hn)⟩
theorem RowM.more {W W' : World} {base cm cm' t : Nat} {A A' : Option Addr} {h : Nat → Int} {L : List Value} {a b s : Int} (hr : RowM W base A cm t h L) (ho : W'.ownsRow base 46 5 (.slice A' (t + 1) cm') (t + 1) (L ++ [.int .i64 a, .int .i64 b, .int .i64 (h t), .int .i64 1, .int .i64 s])) :
    RowM W' base A' cm' (t + 1) h (L ++ [.int .i64 a, .int .i64 b, .int .i64 (h t), .int .i64 1, .int .i64 s]) := by
  refine ⟨ho, fun i hi => ?_⟩
  have hl : L.length = t * 5 := hr.own.1
  by_cases e : i < t
  · rw [List.getElem?_append_left (by omega), List.getElem?_append_left (by omega)]
    exact hr.at' i e
  · obtain rfl : i = t := by omega
    rw [List.getElem?_append_right (by omega), List.getElem?_append_right (by omega), hl, show i * 5 + 2 - i * 5 = 2 by omega, show i * 5 + 3 - i * 5 = 3 by omega]
    exact ⟨rfl, rfl⟩
theorem Cls.low {W W' : World} {CB BB n cp base : Nat} {S : Nat → Nat} {Bt : Nat → Nat → Int} (h : Cls W CB BB n cp S Bt) (hk : ∀ k, k < base → W'.heap[k]? = W.heap[k]?) (h1 : CB < base) (h2 : BB < base) : Cls W' CB BB n cp S Bt := by
  obtain ⟨cs, hc, r⟩ := h.row
  exact ⟨h.head.kept (hk _ h1), ⟨cs, (hk _ h2).trans hc, r⟩⟩
theorem Cls.cellsB {W : World} {CB BB n cp : Nat} {S : Nat → Nat} {Bt : Nat → Nat → Int} (h : Cls W CB BB n cp S Bt) : ∀ g, g ∈ [CB, BB] → ∀ o, W.heap[g]? = some o → o.isCells = true := by
  intro g hg o ho
  obtain ⟨cs, hc, _⟩ := h.row
  obtain ⟨cs', hc', _⟩ := h.head
  simp only [List.mem_cons, List.not_mem_nil, or_false] at hg
  rcases hg with rfl | rfl
  · rw [hc'] at ho; cases ho; rfl
  · rw [hc] at ho; cases ho; rfl
def RunPost (w : World) (c : Nat) (h : Nat → Int) (e : Ending) (w' : World) : Prop := ∃ A cm L, e = .returned (.tuple #[.slice A c cm, .int .i64 0]) ∧ RowM w' w.heap.size A cm c h L ∧ Only [] w w'
theorem run_append_nil0 (W : World) (B cp : Nat) (ty : TypeId) : (Builtin.append_ #[24, 24] ty #[.slice none 0 0, .slice (some ⟨B, 0, none⟩) 0 cp]).run Tryd.prog W = .ok (.slice none 0 0) W := by
  obtain ⟨i0, hi, hz0, hz1, hz2⟩ := infoI64
  simp [Builtin.append_, run_underlying Tryd.underlying24, sizeOf, typeInfo, hi, Builtin.lenOf, Builtin.firstCells, loadCells, loadCellsFrom, storeCells]
set_option maxRecDepth 100000 in
set_option maxHeartbeats 2000000 in
theorem Run0_any {w : World} {B cp : Nat} {D : Nat → Nat → Int} (h : Nat → Int) (hM : MatOk 0 D) (hR : RowZ w 2 B (0 * 0) (matF 0 D)) :
    Calls Tryd.prog 8 #[.int .i64 ((0 : Nat) : Int), .slice (some ⟨B, 0, none⟩) 0 cp, .int .i64 1] w (RunPost w 0 h) := by
  have CM := Lib.hid (fun W => mixer_any W)
  have CC := Lib.hid (fun W (hO : Only [] w W) => Check_any (cp := cp) (by omega) hM (hR.only hO (by simp)))
  have hnil := run_append_nil0
  refine (callsIn_wide (n := 8)).1 ?_
  refine callsIn_of_wp_marks Tryd.func8 rfl trivial ?_ rfl
  simp only [Tryd.ntmps8, List.size_toArray, List.length_cons, List.length_nil, Nat.reduceAdd, Nat.reduceSub, Array.replicate_succ, Array.replicate_zero, List.push_toArray, List.append_toArray, List.nil_append, List.cons_append]
  refine wpIn_wide.2 ?_
  clear hM hR
  go_wp2_with fail
  refine (CM.out _).mono ?_
  rintro e w' ⟨rfl, rfl⟩
  go_wp2_with fail
  refine (CC.out _ (Only.refl _ _)).mono ?_
  rintro e w2 ⟨rfl, hO2⟩
  have HO2 := Lib.hid hO2
  clear hO2 CM CC
  go_upto_region 8 with (at_builtin; refine wpList_append_of rfl _ _ 24 rfl rfl rfl (hnil _ _ _ _) ?_)
  obtain ⟨w5, hw5⟩ : ∃ w5, (w2.alloc (.cells ((((Tryd.zeroCells74.setIfInBounds 0 (.int .i64 0)).setIfInBounds 1 (.int .i64 1)).setIfInBounds 2 (.func (.func 29) #[] #[])).setIfInBounds 131 (.slice none 0 0)) 74)).alloc (.cells #[.pointer (some ⟨w2.heap.size, 0, none⟩)] 71) = w5 := ⟨_, rfl⟩
  rw [hw5]
  have HO5 := Lib.hid (HO2.out.trans (hw5 ▸ ((Only.refl [] w2).alloc _).alloc _ : Only [] w2 w5))
  clear hw5 HO2 hnil
  go_wp2_with fail
  go_loopw [37] (fun y wr => y = .int .i64 0 ∧ Hid (Only [] w' wr)) (fun _ _ => 0)
  case atStart => exact ⟨rfl, HO5⟩
  case round =>
    clear HO5
    obtain ⟨rfl, HO5⟩ := hrel
    go_wp2_with fail
    go_loopw [12] (fun y wr => y = .slice none 0 0 ∧ Hid (Only [] w' wr)) (fun _ _ => 0)
    case atStart => exact ⟨rfl, HO5⟩
    case round =>
      clear HO5
      obtain ⟨rfl, HO5⟩ := hrel
      go_wp2_with fail
      exact leaves_marks [] 0 wr trivial fun W' hW' => ⟨_, (by simp [results, Tryd.results8, go_sem] : _), none, 0, [], rfl, ⟨World.ownsRow_nil _ _ _ _, fun i hi => absurd hi (Nat.not_lt_zero i)⟩, HO5.out.shut hW' (Nat.le_refl _)⟩
set_option maxRecDepth 100000 in
set_option maxHeartbeats 8000000 in
theorem Run_any {w : World} {n c B cp : Nat} {p q : Nat → Nat} {h : Nat → Int} {D : Nat → Nat → Int} (hn : n ≤ 128) (hM : MatOk n D) (hR : RowZ w 2 B (n * n) (matF n D)) (hD : Dist n c p q h D) :
    Calls Tryd.prog 8 #[.int .i64 n, .slice (some ⟨B, 0, none⟩) (n * n) cp, .int .i64 1] w (RunPost w c h) := by
  by_cases hn0 : n = 0
  · subst hn0
    have hr := hD.mrg.roots (Nat.le_refl c)
    obtain rfl : c = 0 := by omega
    exact Run0_any h hM hR
  have CM := Lib.hid (fun W => mixer_any W)
  have CC := Lib.hid (fun W (hO : Only [] w W) => Check_any (cp := cp) hn hM (hR.only hO (by simp)))
  refine (callsIn_wide (n := 8)).1 ?_
  refine callsIn_of_wp_marks Tryd.func8 rfl trivial ?_ rfl
  simp only [Tryd.ntmps8, List.size_toArray, List.length_cons, List.length_nil, Nat.reduceAdd, Nat.reduceSub, Array.replicate_succ, Array.replicate_zero, List.push_toArray, List.append_toArray, List.nil_append, List.cons_append]
  refine wpIn_wide.2 ?_
  have HM := Lib.hid hM
  have HR := Lib.hid hR
  have HD := Lib.hid hD
  clear hM hR hD
  · go_wp2_with fail
    refine (CM.out _).mono ?_
    rintro e w' ⟨rfl, rfl⟩
    go_wp2_with fail
    refine (CC.out _ (Only.refl _ _)).mono ?_
    rintro e w2 ⟨rfl, hO2⟩
    have HO2 := Lib.hid hO2
    have hnn : 1 ≤ n * n := Nat.mul_pos (by omega) (by omega)
    have hnb : n * n ≤ 16384 := by
      have := Nat.mul_le_mul hn hn
      omega
    obtain ⟨BB, cb, w3, hrun, hBB, hBl, hO3⟩ := copy_row (cp := cp) (HR.out.only hO2 (by simp)) (by omega) hnn 24
    obtain ⟨nn, hnn'⟩ : ∃ nn, n * n = nn := ⟨_, rfl⟩
    have HNN := Lib.hid hnn'
    rw [hnn'] at hrun hnn hnb hBB ⊢
    have HBB := Lib.hid hBB
    have HO3 := Lib.hid (hO2.trans hO3)
    clear hO2 hO3 hBB CM CC hnn'
    go_upto_region 8 with (at_builtin; refine wpList_append_of rfl _ _ 24 rfl rfl rfl hrun ?_)
    have hcl := new_clv n BB cb
    rw [HNN.out] at hcl
    obtain ⟨cs, hcs⟩ : ∃ cs, ((((Tryd.zeroCells74.setIfInBounds 0 (.int .i64 n)).setIfInBounds 1 (.int .i64 1)).setIfInBounds 2 (.func (.func 29) #[] #[])).setIfInBounds 131 (.slice (some ⟨BB, 0, none⟩) nn cb)) = cs := ⟨_, rfl⟩
    rw [hcs] at hcl ⊢
    obtain ⟨w5, hw5⟩ : ∃ w5, (w3.alloc (.cells cs 74)).alloc (.cells #[.pointer (some ⟨w3.heap.size, 0, none⟩)] 71) = w5 := ⟨_, rfl⟩
    rw [hw5]
    have hC : RowGe w5 w3.heap.size 74 132 (clv n (fun _ => 0) BB cb) := ⟨cs, by
      rw [← hw5]
      exact (Below.heap_alloc _ _ _ (by rw [World.size_alloc]; omega)).trans (heap_alloc_new w3 _), hcl⟩
    have hT : w5.heap[w3.heap.size + 1]? = some (.cells #[.pointer (some ⟨w3.heap.size, 0, none⟩)] 71 (0, 0)) := by
      rw [← hw5]
      have := heap_alloc_new (w3.alloc (.cells cs 74)) (.cells #[.pointer (some ⟨w3.heap.size, 0, none⟩)] 71)
      rwa [World.size_alloc] at this
    have hO5 : Only [] w3 w5 := hw5 ▸ ((Only.refl [] w3).alloc _).alloc _
    have hs5 : w5.heap.size = w3.heap.size + 2 := by rw [← hw5, World.size_alloc, World.size_alloc]
    have hBB3 := HBB.out.lt
    have hle3 := HO3.out.size
    obtain ⟨CB, hCB⟩ : ∃ CB, w3.heap.size = CB := ⟨_, rfl⟩
    have HCB := Lib.hid hCB
    rw [hCB] at hC hT hs5 hBB3 hle3 ⊢
    have HC0 := Lib.hid (hC.congr (fun i hi => clv_other (S' := fun j => if j < 0 then 1 else 0) (.inr (.inr rfl))))
    have HT := Lib.hid hT
    have HB5 := Lib.hid (HBB.out.only hO5 (by simp))
    have HO5 := Lib.hid (HO3.out.trans hO5)
    have HSZ := Lib.hid (And.intro hs5 (And.intro hBB3 (And.intro hBl hle3)))
    clear hcl hw5 hC hT hO5 hs5 hBB3 hle3 hcs hrun hCB HBB HO3
    go_wp2_with fail
    go_loopw [37] (fun y wr => ∃ k : Nat, k ≤ n ∧ y = .int .i64 k ∧ Hid (RowGe wr CB 74 132 (clv n (fun j => if j < k then 1 else 0) BB cb)) ∧ Hid (Only [CB] w5 wr)) (fun y _ => n - (intOf y).toNat)
    case atStart => exact ⟨0, Nat.zero_le _, rfl, HC0, Lib.hid (Only.refl _ _)⟩
    case round =>
      clear HC0
      obtain ⟨k, hk, rfl, HC, HO⟩ := hrel
      have t0 := cell_of_heap (i := 0) ((HO.out.block _ (heap_lt HT.out) (by simp)).trans HT.out) rfl
      replace t0 : wr.cell? ⟨CB + 1, 0, none⟩ = some (.pointer (some ⟨CB, 0, none⟩)) := t0
      by_cases hlt : k < n
      · have f1 := HC.out.cellv (i := 3 + k) (by omega)
        have z1 := HC.out.fz (3 + k)
        rw [clv_size (by omega), if_neg (by omega)] at f1
        have qk : (k : Int) < 128 := by omega
        have qi : ((k : Int)).toNat = k := by omega
        have HC2 := Lib.hid ((HC.out.set (3 + k) (.int .i64 (1 : Int))).congr (u := clv n (fun j => if j < k + 1 then 1 else 0) BB cb) fun j hj => by
          by_cases e : j = 3 + k
          · rw [if_pos e, e, clv_size (by omega), if_pos (by omega)]; rfl
          · rw [if_neg e]
            refine clv_other ?_
            by_cases e2 : j < 3
            · exact .inl e2
            · refine .inr (.inr ?_)
              by_cases e3 : j - 3 < k
              · rw [if_pos e3, if_pos (by omega)]
              · rw [if_neg e3, if_neg (by omega)])
        have HO2' := Lib.hid (HO.out.setCell (g := CB) (i := 3 + k) (by simp) (.int .i64 (1 : Int)))
        clear HC HO
        go_wp2_with fail
        exact ⟨⟨k + 1, by omega, by go_num, HC2, HO2'⟩, by simp [intOf]; omega⟩
      · obtain rfl : k = n := by omega
        have hB5 := HB5.out.only HO.out (by have := HSZ.out; simp; omega)
        have HCl := Lib.hid (show Cls wr CB BB k cb (fun i => sumOf k id one i) D from ⟨HC.out.congr (fun i hi => clv_other (.inr (.inr sz_start.symm))), by rw [HNN.out]; exact hB5⟩)
        have hTl := (HO.out.block _ (heap_lt HT.out) (by simp)).trans HT.out
        have HT2 := Lib.hid hTl
        have hck := con_len HD.out (by omega)
        have HOw := Lib.hid (HO5.out.to HO.out fun i hi hl => by simp at hi; have := HSZ.out; omega)
        clear hB5 hTl HC HO HB5 HT hlt
        go_wp2_with fail
        refine wp_loop (fun a' w' => ∃ (t : Nat) (P : Nat → Nat) (Bt : Nat → Nat → Int) (A : Option Addr) (cm : Nat) (L : List Value) (DS : List Deferred) (e : EV), t ≤ c ∧ Hid (LkS k c p q h D t P Bt) ∧ Hid (Cls w' CB BB k cb (fun i => sumOf k P one i) Bt) ∧ Hid (RowM w' wr.heap.size A cm t h L) ∧ Hid (Marks wr.heap.size w' w'.heap.size DS) ∧ Hid (Only [CB, BB] wr w') ∧ a' = { tmps := #[.int .i64 k, .slice (some ⟨B, 0, none⟩) nn cp, .int .i64 1, undef, undef, undef, .slice none 0 0, .int .i64 0, .func (.func 29) #[] #[], .int .i64 0, .pointer (some ⟨CB + 1, 0, none⟩), u11, .slice A t cm, e.x13, e.x14, e.x15, undef, undef, undef, .int .i64 1, .func (.func 29) #[] #[], .func (.func 29) #[] #[], .bool false, .int .i64 k, .slice (some ⟨B, 0, none⟩) nn cp, .int .i64 0, .int .i64 0, .bool false, undef, .int .i64 k, .int .i64 1, .func (.func 29) #[] #[], .slice (some ⟨B, 0, none⟩) nn cp, .slice (some ⟨BB, 0, none⟩) nn cb, .agg cs, .pointer (some ⟨CB, 0, none⟩), .int .i64 k, .int .i64 k, .bool false, u39, u40, u41, u42, u43, u44, u45, e.x46, e.x47, e.x48, e.x49, e.x50, e.x51, e.x52, e.x53, e.x54, e.x55, e.x56, e.x57, e.x58, e.x59, e.x60, e.x61, e.x62, e.x63, e.x64, e.x65, e.x66, e.x67, e.x68, e.x69, e.x70, e.x71, e.x72, e.x73, e.x74, e.x75, e.x76, e.x77, e.x78], defers := DS }) (fun a' _ => k - lenOfV (a'.tmps.getD 12 undef)) ?_ ?_
        · exact ⟨0, id, D, none, 0, [], [], ⟨_, _, _, _, _, _, _, _, _, _, _, _, _, _, _, _, _, _, _, _, _, _, _, _, _, _, _, _, _, _, _, _, _, _, _, _⟩, Nat.zero_le _, Lib.hid (LkS.start HM.out.sym), HCl, Lib.hid ⟨World.ownsRow_nil _ _ _ _, fun i hi => absurd hi (Nat.not_lt_zero i)⟩, Lib.hid trivial, Lib.hid (Only.refl _ _), rfl⟩
        · rintro a' w6 ⟨t, P, Bt, A, cm, L, DS, ev, ht, HS, HC, HR6, HMk, HO6, rfl⟩
          dsimp only
          by_cases hlt : t < c
          · have q1 : (t : Int) < (k : Int) - 1 := by omega
            go_upto_region 17 with (fail)
            obtain ⟨w7, hw7⟩ : ∃ w7, ((w6.alloc (.cells #[.int .i64 (-1)] 3)).alloc (.cells #[.int .i64 (-1)] 3)).alloc (.cells #[.int .i64 0, .int .i64 0] 44) = w7 := ⟨_, rfl⟩
            obtain ⟨hbx, hO7, hs7⟩ := boxes_new hw7
            rw [hw7]
            have hsz := HSZ.out
            have hT7 := (HO6.out.block _ (heap_lt HT2.out) (by simp; omega)).trans HT2.out
            have hT6l := heap_lt hT7
            replace hT7 := (hO7.block _ hT6l (by simp)).trans hT7
            have hw6 := HO6.out.size
            obtain ⟨Ba, hBa⟩ : ∃ Ba, w6.heap.size = Ba := ⟨_, rfl⟩
            rw [hBa] at hbx hs7 hT6l hw6 ⊢
            have HBa := Lib.hid hBa
            obtain ⟨Bb, hBb⟩ : ∃ Bb, Ba + 1 = Bb := ⟨_, rfl⟩
            rw [hBb] at hbx ⊢
            obtain ⟨Bl, hBl'⟩ : ∃ Bl, Bb + 1 = Bl := ⟨_, rfl⟩
            rw [hBl'] at hbx ⊢
            have f10 := cell_of_heap (i := 0) hT7 rfl
            replace f10 : w7.cell? ⟨CB + 1, 0, none⟩ = some (.pointer (some ⟨CB, 0, none⟩)) := f10
            have HC7 := Lib.hid (HC.out.only hO7 (by simp) (by simp))
            have HO7 := Lib.hid hO7
            have HBX := Lib.hid hbx
            have HT7 := Lib.hid hT7
            have HNE := Lib.hid (show CB < wr.heap.size ∧ BB < CB ∧ CB + 1 < Ba ∧ wr.heap.size ≤ Ba ∧ Bb = Ba + 1 ∧ Bl = Ba + 2 ∧ w7.heap.size = Ba + 3 by have := heap_lt HT2.out; omega)
            clear hw7 hbx hO7 hs7 hsz hT7 hT6l hw6 hBa hBb hBl' t0
            go_wp2_with fail
            refine (pairs_any CB _).mono ?_
            rintro e w8 ⟨rfl, hw8⟩
            have hBx : w8.heap[w7.heap.size]? = some (.cells #[.pointer (some ⟨CB, 0, none⟩)] 71 (0, 0)) := hw8 ▸ heap_alloc_new w7 _
            have hO8 : Only [] w7 w8 := hw8 ▸ (Only.refl [] w7).alloc _
            have hs8 : w8.heap.size = w7.heap.size + 1 := by rw [← hw8, World.size_alloc]
            obtain ⟨Bf, hBxe⟩ : ∃ Bf, w7.heap.size = Bf := ⟨_, rfl⟩
            rw [hBxe] at hBx hs8 HNE ⊢
            have HBx := Lib.hid hBx
            have HC8 := Lib.hid (HC7.out.only hO8 (by simp) (by simp))
            have HBX8 := Lib.hid (HBX.out.only hO8)
            have HT8 := Lib.hid ((hO8.block _ (heap_lt HT7.out) (by simp)).trans HT7.out)
            have HO8 := Lib.hid (HO7.out.trans hO8)
            have HS8 := Lib.hid hs8
            clear hw8 hBx hO8 hs8 hBxe HBX HC7 HT7 HO7 f10
            go_wp2_with fail
            have hne := HNE.out
            have hs8 := HS8.out
            have g1 : CB ∉ [Ba, Bb, Bl] := by simp; omega
            have g2 : BB ∉ [Ba, Bb, Bl] := by simp; omega
            have g3 : Bf ∉ [Ba, Bb, Bl] := by simp; omega
            have g4 : CB + 1 ∉ [Ba, Bb, Bl] := by simp; omega
            have g5 : Ba < w8.heap.size := by omega
            have g6 : Bb < w8.heap.size := by omega
            have g7 : Bl < w8.heap.size := by omega
            have n1 : ¬ Ba = Bb := by omega
            have n2 : ¬ Ba = Bl := by omega
            have n3 : ¬ Bb = Bl := by omega
            clear hne hs8
            refine wpIn_wide.1 (range_allowed (n := 8) (by omega) (gf := 32) (lb := #[.pointer (some ⟨Bf, 0, none⟩)]) rfl (enters_of Tryd.func32 (by kernel_rfl) rfl)
              (hseq := pairs1_in 7 (by omega) [Ba, Bb, Bl] g1 g2 g3 hn (fun i => Nat.le_trans (sz_le P i) hn) w8 HC8.out HBx.out) (fun _ => rfl) KeepG.trans (fun W l o o' h hc => KeepG.put o' h hc)
              (PI w8 Ba Bb Bl k (fun i => sumOf k P one i) Bt) (PI.own (Nat.le_refl _) g5 g6 g7) ⟨Only.refl _ _, .inl ⟨rfl, HBX8.out⟩⟩ ?aa ?assign ?body ?done)
            case assign =>
              intro l x W K hK
              gi_wp2
              exact hK
            case body =>
              rintro l pre ⟨x, y⟩ W hPI ⟨hxy, hyk, hx0, hy0⟩
              dsimp only at hxy hyk hx0 hy0
              have hCW := HC8.out.only hPI.1 g1 g2
              have hTW := (hPI.1.block _ (heap_lt HT8.out) g4).trans HT8.out
              have f10 := cell_of_heap (i := 0) hTW rfl
              replace f10 : W.cell? ⟨CB + 1, 0, none⟩ = some (.pointer (some ⟨CB, 0, none⟩)) := f10
              obtain ⟨z', hz'⟩ : ∃ z' : Nat, Bt x y = (z' : Int) := ⟨(Bt x y).toNat, by have := HS.out.big HM.out.big (by omega) hyk hx0 hy0 (by omega); omega⟩
              have hz2 : z' ≤ 1099511627776 := by have := HS.out.big HM.out.big (by omega) hyk hx0 hy0 (by omega); omega
              have CD := Lib.hid (distance_any hCW hn x y (by omega) hyk)
              rw [hz'] at CD
              have HPI := Lib.hid hPI
              have HXY := Lib.hid (And.intro hxy (And.intro hyk (And.intro hx0 (And.intro hy0 (And.intro hz' hz2)))))
              have n4 : ¬ Bb = Ba := by omega
              have n5 : ¬ Bl = Ba := by omega
              have n6 : ¬ Bl = Bb := by omega
              have HWl := Lib.hid (show Bl < W.heap.size ∧ Bb < W.heap.size ∧ Ba < W.heap.size by have := hPI.1.size; omega)
              clear hPI hCW hTW g1 g2 g3 g4 g5 g6 g7 hxy hx0 hy0 hyk hz' hz2 HC8 HBX8 HT8 HBx HO8 HS8 HNE
              rcases HPI.out.2 with ⟨e0, hbx⟩ | ⟨ne0, a, b, z, a1, a2, a3, a4, a5, a6, hbx⟩
              · skip
                --[
                have HNf := Lib.hid (show ∀ W', Bx W W' Ba Bb Bl 3 44 (.int .i64 x) (.int .i64 y) (.int .i64 z') (.int .i64 1) → KeepsOthers W W' ∧ KeepG [Ba, Bb, Bl] W W' ∧ PI w8 Ba Bb Bl k (fun i => sumOf k P one i) Bt (pre ++ [(x, y)]) W' from fun W' hb =>
                  ⟨hb.keeps, KeepG.only hb.only, HPI.out.take HXY.out.1 HXY.out.2.1 HXY.out.2.2.1 HXY.out.2.2.2.1 HXY.out.2.2.2.2.1 (fun a b z h3 => by
                    have := h3.ha.symm.trans hbx.ha
                    simp at this) hb⟩)
                clear HPI
                gi_wp2_with fail
                refine ⟨trivial, (CallsIn.inRound l (callsIn_wide.2 CD.out)).mono ?_⟩
                rintro e w9 ⟨rfl, hO9⟩
                have h9 := (Bx.start hbx).calm hO9
                have h10 := h9.calm ((Only.refl [] w9).alloc (.cells #[.int .i64 z', .int .i64 1] 44))
                have hk := heap_alloc_new w9 (.cells #[.int .i64 z', .int .i64 1] 44)
                have hws := hO9.size
                gi_upto_region 21 with (fail)
                obtain ⟨w10, hw10⟩ : ∃ w10, w9.alloc (.cells #[.int .i64 z', .int .i64 1] 44) = w10 := ⟨_, rfl⟩
                obtain ⟨Bn, hBn⟩ : ∃ Bn, w9.heap.size = Bn := ⟨_, rfl⟩
                rw [hw10] at h10 hk ⊢
                rw [hBn] at hk hws ⊢
                have ca := cell_of_heap (i := 0) h10.box.ha rfl
                have cb1 := cell_of_heap (i := 0) h10.box.hb rfl
                have cn0 := cell_of_heap (i := 0) hk rfl
                have cn1 := cell_of_heap (i := 1) hk rfl
                have cl0 := cell_of_heap (i := 0) h10.box.hl rfl
                have cl1 := cell_of_heap (i := 1) h10.box.hl rfl
                have ya := frozen_of_heap (i := 0) h10.box.ha
                have yb := frozen_of_heap (i := 0) h10.box.hb
                have yl0 := frozen_of_heap (i := 0) h10.box.hl
                have yl1 := frozen_of_heap (i := 1) h10.box.hl
                simp only [List.getElem_toArray, List.getElem_cons_zero, List.getElem_cons_succ] at ca cb1 cn0 cn1 cl0 cl1
                have m1 : ¬ Bn = Ba := by have := HWl.out; omega
                have m2 : ¬ Bn = Bb := by have := HWl.out; omega
                have m3 : ¬ Bn = Bl := by have := HWl.out; omega
                have H10 := Lib.hid h10
                have H11 := H10
                clear h9 h10 hk hws hw10 hBn hO9 hbx f10
                gi_upto_region 22 with (fail)
                refine ⟨trivial, ?_⟩
                gi_upto_region 22 with (fail)
                gi_region
                all_goals
                  gi_wp2_with fail
                  refine HNf.out _ ?_
                  repeat (first | with_reducible exact H10.out | with_reducible exact H11.out | with_reducible apply Bx.drew | with_reducible apply Bx.setl n2 n3 | with_reducible apply Bx.seta n1 n2 | with_reducible apply Bx.setb n1 n3)
                --]
              · skip
                --[
                have HA := Lib.hid (And.intro a1 (And.intro a2 (And.intro a3 (And.intro a4 (And.intro a5 a6)))))
                have qa : ¬ (a : Int) < 0 := by omega
                have hzb : z ≤ 1099511627776 := by have := HS.out.big HM.out.big (by omega) a2 a3 a4 (by omega); omega
                have CL := Lib.hid (fun W' => less_any z' z (by have := HXY.out; omega) (by omega) W')
                clear a1 a2 a3 a4 a5 a6 hzb
                gi_wp2_with fail
                refine ⟨trivial, (CallsIn.inRound l (callsIn_wide.2 CD.out)).mono ?_⟩
                rintro e w9 ⟨rfl, hO9⟩
                have h9 := (Bx.start hbx).calm hO9
                have h10 := h9.calm ((Only.refl [] w9).alloc (.cells #[.int .i64 z', .int .i64 1] 44))
                have hk := heap_alloc_new w9 (.cells #[.int .i64 z', .int .i64 1] 44)
                have hws := hO9.size
                gi_upto_region 21 with (fail)
                obtain ⟨w10, hw10⟩ : ∃ w10, w9.alloc (.cells #[.int .i64 z', .int .i64 1] 44) = w10 := ⟨_, rfl⟩
                obtain ⟨Bn, hBn⟩ : ∃ Bn, w9.heap.size = Bn := ⟨_, rfl⟩
                rw [hw10] at h10 hk ⊢
                rw [hBn] at hk hws ⊢
                have ca := cell_of_heap (i := 0) h10.box.ha rfl
                have cb1 := cell_of_heap (i := 0) h10.box.hb rfl
                have cn0 := cell_of_heap (i := 0) hk rfl
                have cn1 := cell_of_heap (i := 1) hk rfl
                have cl0 := cell_of_heap (i := 0) h10.box.hl rfl
                have cl1 := cell_of_heap (i := 1) h10.box.hl rfl
                have ya := frozen_of_heap (i := 0) h10.box.ha
                have yb := frozen_of_heap (i := 0) h10.box.hb
                have yl0 := frozen_of_heap (i := 0) h10.box.hl
                have yl1 := frozen_of_heap (i := 1) h10.box.hl
                simp only [List.getElem_toArray, List.getElem_cons_zero, List.getElem_cons_succ] at ca cb1 cn0 cn1 cl0 cl1
                have m1 : ¬ Bn = Ba := by have := HWl.out; omega
                have m2 : ¬ Bn = Bb := by have := HWl.out; omega
                have m3 : ¬ Bn = Bl := by have := HWl.out; omega
                have H10 := Lib.hid h10
                have HK := Lib.hid hk
                clear h9 h10 hk hws hw10 hBn hO9 f10
                gi_upto_region 22 with (fail)
                refine ⟨trivial, (CallsIn.inRound l (callsIn_wide.2 (CL.out _))).mono ?_⟩
                rintro e w11 ⟨rfl, hO11⟩
                have h11 := H10.out.calm hO11
                have hk := (hO11.block _ (heap_lt HK.out) (by simp)).trans HK.out
                clear ca cb1 cn0 cn1 cl0 cl1 ya yb yl0 yl1 CL HK
                have ca := cell_of_heap (i := 0) h11.box.ha rfl
                have cb1 := cell_of_heap (i := 0) h11.box.hb rfl
                have cn0 := cell_of_heap (i := 0) hk rfl
                have cn1 := cell_of_heap (i := 1) hk rfl
                have cl0 := cell_of_heap (i := 0) h11.box.hl rfl
                have cl1 := cell_of_heap (i := 1) h11.box.hl rfl
                have ya := frozen_of_heap (i := 0) h11.box.ha
                have yb := frozen_of_heap (i := 0) h11.box.hb
                have yl0 := frozen_of_heap (i := 0) h11.box.hl
                have yl1 := frozen_of_heap (i := 1) h11.box.hl
                simp only [List.getElem_toArray, List.getElem_cons_zero, List.getElem_cons_succ] at ca cb1 cn0 cn1 cl0 cl1
                have H11 := Lib.hid h11
                clear hk hO11 h11
                by_cases hle : z' < z
                · have HNf := Lib.hid (show ∀ W', Bx W W' Ba Bb Bl 3 44 (.int .i64 x) (.int .i64 y) (.int .i64 z') (.int .i64 1) → KeepsOthers W W' ∧ KeepG [Ba, Bb, Bl] W W' ∧ PI w8 Ba Bb Bl k (fun i => sumOf k P one i) Bt (pre ++ [(x, y)]) W' from fun W' hb =>
                    ⟨hb.keeps, KeepG.only hb.only, HPI.out.take HXY.out.1 HXY.out.2.1 HXY.out.2.2.1 HXY.out.2.2.2.1 HXY.out.2.2.2.2.1 (fun a b z h3 => by
                      have := h3.hl.symm.trans hbx.hl
                      simp at this
                      omega) hb⟩)
                  rw [decide_eq_true hle]
                  clear HPI hbx
                  gi_upto_region 22 with (fail)
                  gi_region
                  all_goals
                    gi_wp2_with fail
                    refine HNf.out _ ?_
                    repeat (first | with_reducible exact H10.out | with_reducible exact H11.out | with_reducible apply Bx.drew | with_reducible apply Bx.setl n2 n3 | with_reducible apply Bx.seta n1 n2 | with_reducible apply Bx.setb n1 n3)
                · have HNf := Lib.hid (show ∀ W', Bx W W' Ba Bb Bl 3 44 (.int .i64 a) (.int .i64 b) (.int .i64 z) (.int .i64 1) → KeepsOthers W W' ∧ KeepG [Ba, Bb, Bl] W W' ∧ PI w8 Ba Bb Bl k (fun i => sumOf k P one i) Bt (pre ++ [(x, y)]) W' from fun W' hb =>
                    ⟨hb.keeps, KeepG.only hb.only, PI.stay HPI.out.1 HA.out.1 HA.out.2.1 HA.out.2.2.1 HA.out.2.2.2.1 HA.out.2.2.2.2.1 HA.out.2.2.2.2.2 HXY.out.2.2.2.2.1 (by omega) hb⟩)
                  rw [decide_eq_false hle]
                  clear HPI hbx
                  gi_wp2_with fail
                  exact HNf.out _ H11.out
                --]
            case done =>
              rintro Dm xs W hD hxs hPI hK
              have hne := HNE.out
              have hw6 := HBa.out
              have hOx := hPI.1
              obtain ⟨a0, b0, t1, t2, t3, t4⟩ := HS.out.two HD.out hlt
              have hmem := hxs a0 b0 t1 t2 t3 t4
              rcases hPI.2 with ⟨e0, _⟩ | ⟨_, a, b, z, a1, a2, a3, a4, a5, a6, hbx⟩
              · rw [e0] at hmem; cases hmem
              have hz2 : z ≤ 1099511627776 := by have := HS.out.big HM.out.big (by omega) a2 a3 a4 (by omega); omega
              obtain ⟨hht, hstep⟩ := HS.out.step HD.out hlt a1 a2 a3 a4 (fun x y h1 h2 h3 h4 => a6 (x, y) (hxs x y h1 h2 h3 h4))
              have hCW := HC8.out.only hOx g1 g2
              have hTW := (hOx.block _ (heap_lt HT8.out) g4).trans HT8.out
              have hO6W : Only [] w6 W := HO8.out.to hOx fun i hi hl => by simp at hi; omega
              have hRW := owns_only HR6.out.own hO6W
              have hDl := heap_lt hK
              have hMkW : Marks wr.heap.size W W.heap.size ({ target := .collected Dm, args := #[] } :: DS) := ⟨Dm, rfl, by omega, hDl, hK, (HMk.out.keep (KeepsOthers.of_only hO6W)).up (by omega)⟩
              have CU := Lib.hid (lunite_any hCW hn (by omega) (fun i => Nat.le_trans (sz_le P i) hn) a b z (by omega) a2 (by omega) a5 hz2)
              have HLk := Lib.hid hstep
              have HHt := Lib.hid (hht.symm.trans a5)
              have HOW := Lib.hid (HO6.out.trans (hO6W.mono (by simp)))
              have HRW := Lib.hid hRW
              have HMW := Lib.hid hMkW
              have HCW := Lib.hid hCW
              have HWs := Lib.hid hO6W.size
              have HAB := Lib.hid (And.intro a1 (And.intro a2 (And.intro a3 a4)))
              have f10 := cell_of_heap (i := 0) hTW rfl
              replace f10 : W.cell? ⟨CB + 1, 0, none⟩ = some (.pointer (some ⟨CB, 0, none⟩)) := f10
              have ca := cell_of_heap (i := 0) hbx.ha rfl
              have cb1 := cell_of_heap (i := 0) hbx.hb rfl
              simp only [List.getElem_toArray, List.getElem_cons_zero, List.getElem_cons_succ] at ca cb1
              have qa : ¬ (a : Int) < 0 := by omega
              clear hne hw6 hOx t1 t2 t3 t4 hmem hPI a1 a2 a3 a4 a5 a6 hbx hz2 hht hstep hCW hTW hO6W hRW hDl hMkW hD hxs hK HC8 HBX8 HT8 HBx HO8 HS8 g1 g2 g3 g4 g5 g6 g7
              go_wp2_with fail
              refine CU.out.mono ?_
              rintro e w12 ⟨rfl, hC12, hO12⟩
              obtain ⟨ss, hss⟩ : ∃ ss, sumOf k P one a + sumOf k P one b = ss := ⟨_, rfl⟩
              rw [hss]
              have hne := HNE.out
              have hws := HWs.out
              have hw6 := HBa.out
              have hws2 := hO12.size
              have hRm := owns_onlyG HRW.out hO12 (fun g hg => by simp at hg; omega)
              have hKe := KeepsOthers.of_cells hO12 HCW.out.cellsB
              obtain ⟨A', cm', w13, hrun, hown, hon, hkeep, hlow⟩ := merge_more hRm (by omega) a b z ss (by omega) 36
              have hlu := (HS.out.lk.labs)
              have hab := HAB.out
              have HC13 := Lib.hid (show Cls w13 CB BB k cb (fun i => sumOf k (uni P (a, b)) one i) (bfill (fun i => sumOf k P one i) Bt a b k) from by
                have h2 := hC12.low hlow (by omega) (by omega)
                exact ⟨h2.head.congr (fun i hi => clv_other (.inr (.inr (sz_unite ((sz_alive hlu (by omega)).1 hab.2.2.1) ((sz_alive hlu hab.2.1).1 hab.2.2.2) hab.1 _)))), h2.row⟩)
              have HR13 := Lib.hid (show RowM w13 wr.heap.size A' cm' (t + 1) h _ from RowM.more (a := a) (b := b) (s := ss) HR6.out (by rw [HHt.out]; exact hown))
              have HM13 := Lib.hid (show Marks wr.heap.size w13 w13.heap.size ({ target := .collected Dm, args := #[] } :: DS) from ((HMW.out.keep hKe).keep hkeep).up (Nat.le_trans hws2 hkeep.size))
              have HO13 := Lib.hid (hon [CB, BB] wr (HOW.out.trans hO12) (Nat.le_refl _))
              clear hne hws hw6 hws2 hRm hKe hown hon hkeep hlow hlu hab hC12 hO12 hss f10 ca cb1 qa n1 n2 n3 CU HRW HMW HCW HOW HWs HAB
              go_wp2_with (at_builtin; refine wpList_append_of rfl _ _ 36 rfl rfl rfl hrun ?_)
              refine ⟨⟨t + 1, uni P (a, b), _, A', cm', _, _, ⟨_, _, _, _, _, _, _, _, _, _, _, _, _, _, _, _, _, _, _, _, _, _, _, _, _, _, _, _, _, _, _, _, _, _, _, _⟩, by omega, HLk, HC13, HR13, HM13, HO13, rfl⟩, ?_⟩
              show k - (t + 1) < k - t
              omega
          · obtain rfl : t = c := by omega
            have q1 : ¬ (t : Int) < (k : Int) - 1 := by omega
            have hOw6 := HOw.out.to HO6.out (fun i hi hl => by simp at hi; have := HSZ.out; have := HO2.out.size; omega)
            go_wp2_with fail
            have hw := HOw.out.size
            refine leaves_marks DS _ w6 HMk.out fun W' hW' => ⟨_, (by simp [results, Tryd.results8, go_sem] : _), A, cm, L, rfl, ?_, hOw6.shut hW' (by omega)⟩
            exact ⟨owns_weak0 (HR6.out.shut hW').own (by omega), HR6.out.at'⟩

end Go.Proofs.YtipgbbhgmoehfaaDoor
