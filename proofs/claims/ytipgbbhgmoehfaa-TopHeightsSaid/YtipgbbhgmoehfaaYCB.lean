import Derived.Test.YtipgbbhgmoehfaaYCA
import Derived.Test.YtipgbbhgmoehfaaYPM
/-
  cluster.View: All, Count.
-/
namespace Go.Proofs.Ytipgbbhgmoehfaa
open Go.RowKit Go.Maps Go.Shelf Go.Sort
attribute [local go_sem] Oper.semAt_some
set_option linter.unusedSimpArgs false
set_option linter.unusedVariables false
set_option linter.unusedSectionVars false

theorem sortsI (m : Nat) : AnyZI.SortsIn Try.prog Try.sortedA_ren Fence.wide m :=
  ⟨fun blk off cap ss W hH hblk hsz => callsIn_wide.2 (AnyM.slices_Sort_int Try.sortA blk off cap ss W hH hblk hsz),
   fun p cap W => callsIn_wide.2 (AnyM.slices_Sort_int_none Try.sortA p cap W)⟩
theorem Keys_any (mb : Option Nat) (W : World) : Calls Try.prog 75 #[.map mb] W fun e w' => e = .returned (.func (.func 111) #[] #[.pointer (some ⟨W.heap.size, 0, none⟩)]) ∧ w' = W.alloc (.cells #[.map mb] 126) :=
  (callsIn_wide (n := 5)).1 (AnyZI.keys_in Try.keysA Fence.wide 5 trivial rfl mb W)
theorem Sorted_any {H : Type} (b nn : Nat) (D0 : DataW H) (R : Value → Option (DataW H × List MemPlace)) (w : World) (hown : w.ownsMap Try.prog 3 R b nn D0) (hmax : Maps.size D0 ≤ maxLen) (hbytes : Maps.size D0 * 8 ≤ 140737488355328) :
    Calls Try.prog 74 #[.func (.func 111) #[] #[.pointer (some ⟨w.heap.size, 0, none⟩)]] (w.alloc (.cells #[.map (some b)] 126)) fun e w' => ∃ (v : Value) (ss : List Int), e = .returned v ∧ ss.Perm (intKeys D0) ∧
      w'.ownsRow (w.heap.size + 1) 3 1 v ss.length ((ss.mergeSort (fun x y => decide (x ≤ y))).map encZ) ∧ Only [] w w' := by
  have hbl := hown.lt
  have hseq : SeqGives Fence.wide 2 Try.prog 111 #[.pointer (some ⟨w.heap.size, 0, none⟩)] encZ (fun ss => ss.Perm (intKeys D0)) (Maps.size D0) (w.alloc (.cells #[.map (some b)] 126)) :=
    AnyZI.keys_gives (ρ := Try.keysA_ren) { Try.keysA with } Fence.wide _ trivial rfl (by omega) w.heap.size b nn D0 _ (by simp) (by simp) (by
      obtain ⟨es, clock, hb, Ft, hs, hD⟩ := hown
      exact ⟨es, clock, (Below.heap_alloc _ _ b hbl).trans hb, Ft, hs, hD⟩)
  have cS := AnyZI.sorted_in Try.sortedA Fence.wide 5 trivial trivial trivial trivial rfl (by omega) (sortsI _) (enters_of Try.func110 (by kernel_rfl) rfl) 111 #[.pointer (some ⟨w.heap.size, 0, none⟩)] trivial (enters_of Try.func111 (by kernel_rfl) rfl) _ _ hmax hbytes _ hseq
  change CallsIn _ _ Try.prog 74 _ _ _ at cS
  refine ((callsIn_wide (n := 5)).1 cS).mono ?_
  rintro e w' ⟨v, ss, rfl, hS, hrow, hnil, hb⟩
  rw [World.size_alloc] at hrow
  exact ⟨v, ss, rfl, hS, hrow, ((Only.refl [] w).alloc _).trans (only_of_below' hb)⟩
theorem owns_keys {W : World} {base : Nat} {A : Option Addr} {n c : Nat} {ks : List Int} (h : W.ownsRow base 3 1 (.slice A n c) n (ks.map encZ)) {j : Nat} {y : Int} (hj : ks[j]? = some y) : ∃ b, A = some ⟨b, 0, none⟩ ∧ base ≤ b ∧ b < W.heap.size ∧ W.cell? ⟨b, j, none⟩ = some (.int .i64 y) := by
  have hlt := (List.getElem?_eq_some_iff.1 hj).1
  obtain ⟨hl, ⟨e, h0⟩ | ⟨g, cap, cur, e, hb, hh, h1, h2, h3, ht⟩⟩ := h
  · rw [List.length_map] at hl
    omega
  · cases e
    rw [List.length_map] at hl
    refine ⟨g, rfl, hb, heap_lt hh, cell_of_heap hh ?_⟩
    have e : (ks.map encZ)[j]? = some (encZ y) := by rw [List.getElem?_map, hj]; rfl
    rw [← ht, List.getElem?_take, if_pos (by omega)] at e
    simpa using e
theorem run_makeMapN (w : World) : (Instr.makeMap 126 none).run Try.prog w = .ok (.map (some w.heap.size)) (w.alloc (.map #[] 0)) := by
  simp [Instr.makeMap, run_underlying Try.underlying126, asInt]
theorem infoGr : (Try.prog.info? 142).map (fun i => (i.zero, i.size, i.bytes)) = some (some (.agg #[.int .i64 0, .int .i64 0]), 2, 16) := by kernel_rfl
theorem mk_groups (r : Nat) (hr : r ≤ 1000000) (w : World) : (Instr.makeSlice 111 (.int .i64 0) (.int .i64 (r : Int))).run Try.prog w = .ok (.slice (some ⟨w.heap.size, 0, none⟩) 0 r) (w.alloc (.cells (madeCells #[.int .i64 0, .int .i64 0] (r * 2)) 142)) := by
  obtain ⟨i0, hi, hz0, hz1, hz2⟩ := info_parts infoGr
  have hr := run_make (P := Try.prog) w 111 142 i0 _ Try.underlying111 hi hz0 .i64 .i64 0 r (by omega) (by omega) (by rw [hz2]; omega) (by omega)
  simp only [Int.toNat_natCast, hz1] at hr
  exact hr

section
variable {W : World} {VB TT LS n c : Nat} {p q : Nat → Nat} {h : Nat → Int} {s L R P H Z : Nat} (v : ViewIn W VB TT LS n c p q h s L R P H Z)
include v
set_option maxRecDepth 100000 in
set_option maxHeartbeats 4000000 in
theorem CAll_any (th : Int) (kk : Nat) (hk : kk ≤ c) (h1 : ∀ i, i < kk → h i ≤ th) (h2 : ∀ i, kk ≤ i → i < c → th < h i) :
    Calls Try.prog 48 #[.pointer (some ⟨VB, 0, none⟩), .int .i64 th] W fun e w' => ∃ A cp, e = .returned (.slice A (roots n (tlab p q kk)) cp) ∧ Only [] W w' := by
  obtain ⟨i1, gi, gz0, gz1, gz2⟩ := info_parts infoGr
  obtain ⟨b1, b2, b3, b4⟩ := v.tin.bounds
  have hmm := run_makeMapN
  have CL := Lib.hid (fun W1 (hO : Only [] W W1) => CLabels_any (v.only hO) th kk hk h1 h2)
  have HL := Lib.hid (v.tin.ok.mrg.labs hk)
  have hrn := Lib.hid (roots_le n (tlab p q kk))
  obtain ⟨lab, hlab⟩ : ∃ lab, tlab p q kk = lab := ⟨_, rfl⟩
  rw [hlab] at CL HL hrn ⊢
  obtain ⟨r, hr⟩ : ∃ r, roots n lab = r := ⟨_, rfl⟩
  rw [hr] at hrn ⊢
  have HRt := Lib.hid hr
  clear v hlab h1 h2 hr
  go_enter Try.func48, Try.ntmps48
  go_wp2_with fail
  refine (CL.out _ ((Only.refl [] W).alloc _)).mono ?_
  rintro e w1 ⟨g, cp, rfl, hR, hg, hO⟩
  have HM := Lib.hid ((World.ownsMap_made W Try.prog 3 (plainElem (H := Unit) Try.prog 3)).kept (grown_only hO) (by simp))
  have HR := Lib.hid hR
  have HO1 := Lib.hid (((Only.refl [] W).alloc _).trans hO)
  have hgl := hR.lt
  rw [World.size_alloc] at hg
  clear hR hO CL
  go_wp2_with fail
  obtain ⟨MB, hMB⟩ : ∃ MB, W.heap.size = MB := ⟨_, rfl⟩
  rw [hMB] at HM hg ⊢
  go_loopw [16] (fun y wr => ∃ (k : Nat) (D : DataW Unit), k ≤ n ∧ y = .int .i64 k ∧ Hid (wr.ownsMap Try.prog 3 (plainElem Try.prog 3) MB k D) ∧ Hid (Cnt lab k D) ∧ Hid (Only [MB] w1 wr)) (fun y _ => n - (intOf y).toNat)
  case atStart => exact ⟨0, .map [], Nat.zero_le _, rfl, HM, Lib.hid (Cnt.start _), Lib.hid (Only.refl _ _)⟩
  case round =>
    clear HM
    obtain ⟨k, D, hkn, rfl, HM, HC, HO⟩ := hrel
    by_cases hlt : k < n
    · have c1 := (HR.out.only HO.out (by simp; omega)).cell hlt
      have hll := HL.out.lt hlt
      have hkey := keyOf_int_mk Try.underlying3 (wf_small (a := lab k) (by omega))
      obtain ⟨c1', hrun, hat, _⟩ := HM.out.lookup_int keyedI Try.underlying126 Try.underlying3 (zeroI _) hkey
      obtain ⟨c2, hc2, hca, _⟩ := HC.out.2.2 (lab k : Int)
      obtain rfl : c1' = (c2 : Int) := by
        rw [hat] at hca
        cases hca; rfl
      have HN := Lib.hid (HC.out.next HL.out hlt (HM.out.tidy keyedI) hca)
      obtain ⟨x, hx⟩ : ∃ x, lab k = x := ⟨_, rfl⟩
      rw [hx] at c1 hkey hrun HN
      clear hat hca hll hx
      go_wp2_with (at_mapUpdate; refine wpList_mapUpdate_own _ rfl _ _ _ 126 rfl 3 3 keyedI Try.underlying126 _ MB k _ rfl HM.out (by unfold maxLen; omega) _ _ _ rfl rfl hkey _ [] (plainElem_int Try.underlying3 (show (Lit.int .i64 ((c2 : Int) + 1)).wf = true from wf_of (by omega) (by omega))) ?_; intro w2 hown1 hgrow1; have HM2 := Lib.hid hown1; have HO2 := Lib.hid (HO.out.trans (show Only [MB] _ w2 from ⟨hgrow1.os, hgrow1.tape, hgrow1.output, hgrow1.size, fun k hk hn => hgrow1.block k hk (fun e => by cases e; simp at hn)⟩)); clear hown1 hgrow1)
      exact ⟨⟨k + 1, _, by omega, by go_num, HM2, HN, HO2⟩, by simp [intOf]; omega⟩
    · obtain rfl : k = n := by omega
      have hrn' := hrn.out
      have hsz := HC.out.2.1
      rw [HRt.out] at hsz
      have hlen := fun ty => HM.out.len Try.underlying126 ty
      rw [hsz] at hlen
      have hmg := mk_groups r (by omega)
      have hMBl := HM.out.lt
      have HS := Lib.hid hsz
      have hw1 := HO1.out.size
      have HO3 := Lib.hid (HO1.out.to HO.out fun g hg hl => by simp at hg; omega)
      clear hsz HO
      go_upto_region 8 with (fail)
      obtain ⟨W3, hW3⟩ : ∃ W3, wr.alloc (.cells (madeCells #[.int .i64 0, .int .i64 0] (r * 2)) 142) = W3 := ⟨_, rfl⟩
      have hO3 : Only [] wr W3 := hW3 ▸ (Only.refl [] wr).alloc _
      have HM3 := Lib.hid (HM.out.kept (grown_only hO3) (by simp))
      have HG3 := Lib.hid (hW3 ▸ World.ownsRow_made wr (madeCells #[.int .i64 0, .int .i64 0] (r * 2)) r (base := wr.heap.size) (e := 142) (size := 2) (Nat.le_refl _) (by unfold maxLen; omega) (by simp [madeCells]) : W3.ownsRow wr.heap.size 142 2 (.slice (some ⟨wr.heap.size, 0, none⟩) 0 r) 0 [])
      have HO4 := Lib.hid (HO3.out.trans hO3)
      have hs3 : W3.heap.size = wr.heap.size + 1 := by rw [← hW3, World.size_alloc]
      rw [hW3]
      obtain ⟨GB, hGB⟩ : ∃ GB, wr.heap.size = GB := ⟨_, rfl⟩
      rw [hGB] at HG3 hs3 hMBl ⊢
      have hgl2 := HG3.out.lt GB rfl
      have Hs3 := Lib.hid hs3
      clear hs3 hlen hmg hO3 hW3 HM HO3 hmm
      go_wp2_with fail
      refine (Keys_any _ _).mono ?_
      rintro e w4 ⟨rfl, rfl⟩
      go_wp2_with fail
      refine (Sorted_any MB k D _ W3 HM3.out (by rw [HS.out]; unfold maxLen; omega) (by rw [HS.out]; omega)).mono ?_
      rintro e w5 ⟨vk, ss, rfl, hperm, hrow, hO5⟩
      have hsl : ss.length = r := by rw [hperm.length_eq, intKeys_len HC.out.1, HS.out]
      have HM5 := Lib.hid (HM3.out.kept (grown_only hO5) (by simp))
      have HG5 := Lib.hid (HG3.out.kept (grown_only hO5) (.inr (by simp [Value.ownBlock])))
      have HO5 := Lib.hid (HO4.out.trans hO5)
      have hrow2 : w5.ownsRow (W3.heap.size + 1) 3 1 vk r ((ss.mergeSort (fun x y => decide (x ≤ y))).map encZ) := hsl ▸ hrow
      have hml : (ss.mergeSort (fun x y => decide (x ≤ y))).length = r := by rw [List.length_mergeSort, hsl]
      obtain ⟨A, ck, rfl⟩ := owns_slice hrow2
      have HRow := Lib.hid hrow2
      obtain ⟨ks, hks⟩ : ∃ ks, ss.mergeSort (fun x y => decide (x ≤ y)) = ks := ⟨_, rfl⟩
      rw [hks] at hml HRow
      have hs5 := hO5.size
      have HKs := Lib.hid (show ∀ y, y ∈ ks → (Lit.int .i64 y).wf = true from fun y hy => by
        rw [← hks, List.mem_mergeSort] at hy
        exact intKeys_wf HM3.out Try.underlying3 y (hperm.mem_iff.1 hy))
      clear hperm hrow hO5 hrow2 hsl HM3 HG3 HO4 hks
      go_wp2_with fail
      go_loopw [8, 32] (fun vg y wr => ∃ (j : Nat) (xs : List Value), j ≤ r ∧ y = .int .i64 j ∧ Hid (wr.ownsRow GB 142 2 vg j xs) ∧ Hid (vg.ownBlock = some GB ∨ ∃ b, vg.ownBlock = some b ∧ w5.heap.size ≤ b) ∧ Hid (Only [GB] w5 wr)) (fun _ y _ => r - (intOf y).toNat)
      case atStart => exact ⟨0, [], Nat.zero_le _, rfl, HG5, Lib.hid (.inl rfl), Lib.hid (Only.refl _ _)⟩
      case round =>
        clear HG5
        obtain ⟨j, xs, hj, rfl, HG, HB, HO⟩ := hrel
        by_cases hjr : j < r
        · obtain ⟨y, hy⟩ : ∃ y, ks[j]? = some y := ⟨ks[j]'(by omega), List.getElem?_eq_getElem (by omega)⟩
          obtain ⟨b, hA, hbb, hbl, c1⟩ := owns_keys HRow.out hy
          subst hA
          have c2 := cells_keep HO.out c1 (show b ∉ [GB] by have := Hs3.out; simp; omega)
          have hwf := HKs.out y (List.mem_of_getElem? hy)
          have hMw := HM5.out.kept (w' := _) (row := some GB) (⟨HO.out.os, HO.out.tape, HO.out.output, HO.out.size, fun k hk hn => HO.out.block k hk (fun e => hn (by simp at e; rw [e]))⟩) (by simp; omega)
          obtain ⟨cv, hrun, _, hcw⟩ := hMw.lookup_int keyedI Try.underlying126 Try.underlying3 (zeroI _) (keyOf_int_mk Try.underlying3 hwf)
          have hgsz := HO.out.size
          clear c1 hMw hwf hy
          go_wp2_with (at_builtin; refine wpList_append_own_at _ rfl _ _ 111 rfl GB 142 i1 (.agg #[.int .i64 0, .int .i64 0]) 2 16 Try.underlying111 gi gz0 gz1 gz2 rfl (by decide) _ _ _ rfl (HG.out.alloc _) ⟨_, 0, none⟩ 1 1 [.int .i64 y, .int .i64 cv] rfl rfl (cell_two_new _ _ _ _) (by simp [Value.oneCell']) (by unfold maxLen; omega) (by omega) (by simp; omega) ?_; intro v' w1' hown' hgrow _ hat; have HN := Lib.hid hown'; have HB2 := Lib.hid (show v'.ownBlock = some GB ∨ ∃ b, v'.ownBlock = some b ∧ w5.heap.size ≤ b from by
            rcases hat with e | e
            · rcases HB.out with h5 | ⟨b5, h5, h6⟩
              · exact .inl (e.trans h5)
              · exact .inr ⟨b5, e.trans h5, h6⟩
            · exact .inr ⟨_, e, by rw [World.size_alloc]; omega⟩); have HO2 := Lib.hid (show Only [GB] w5 w1' from ⟨hgrow.os.trans HO.out.os, hgrow.tape.trans HO.out.tape, hgrow.output.trans HO.out.output, by have := hgrow.size; rw [World.size_alloc] at this; omega, fun k hk hn => (hgrow.block k (by rw [World.size_alloc]; omega) (fun e => by
              rcases HB.out with e2 | ⟨b2, e2, h2⟩
              · have e3 := e.trans e2; injection e3 with e3; exact hn (by simp [e3])
              · have e3 := e.trans e2; injection e3 with e3; omega)).trans ((heap_alloc_old _ _ (by omega)).trans (HO.out.block k hk hn))⟩); clear hown' hgrow hat)
          exact ⟨⟨j + 1, _, by omega, by go_num, HN, HB2, HO2⟩, by simp [intOf]; omega⟩
        · obtain rfl : j = r := by omega
          rcases HG.out.2 with ⟨e, h0⟩ | ⟨g', cap, cur, e, _⟩
          · subst e
            subst h0
            go_wp2_with fail
            go_ret
            exact ⟨none, 0, rfl, HO5.out.to HO.out fun g hg hl => by simp at hg; omega⟩
          · subst e
            go_wp2_with fail
            go_ret
            exact ⟨_, cap, rfl, HO5.out.to HO.out fun g hg hl => by simp at hg; omega⟩
set_option maxRecDepth 100000 in
set_option maxHeartbeats 2000000 in
theorem CCount_any (th : Int) (kk : Nat) (hk : kk ≤ c) (h1 : ∀ i, i < kk → h i ≤ th) (h2 : ∀ i, kk ≤ i → i < c → th < h i) :
    Calls Try.prog 18 #[.pointer (some ⟨VB, 0, none⟩), .int .i64 th] W fun e w' => e = .returned (.int .i64 (roots n (tlab p q kk) : Nat)) ∧ Only [] W w' := by
  have CA := Lib.hid (CAll_any v th kk hk h1 h2)
  clear v h1 h2
  go_enter Try.func18, Try.ntmps18
  go_wp2_with fail
  refine CA.out.mono ?_
  rintro e w1 ⟨A, cp, rfl, hO⟩
  have HO := Lib.hid hO
  clear hO CA
  go_wp2_with fail
  go_ret
  exact ⟨rfl, HO.out⟩
end

end Go.Proofs.Ytipgbbhgmoehfaa
