/-
  A new tally: build.
-/
import Derived.Test.YtbafacdknaopjaaD14
import Derived.Test.YtbafacdknaopjaaP1
namespace Go.Proofs.Ytbafacdknaopjaa
open Go.RowKit
set_option linter.unusedSimpArgs false
set_option linter.unusedSectionVars false

theorem mk_ints64 (n : Nat) (hn : n ≤ 2147483647) (w : World) : (Instr.makeSlice 25 (.int .i64 (n : Int)) (.int .i64 (n : Int))).run Try.prog w = .ok (.slice (some ⟨w.heap.size, 0, none⟩) n n) (w.alloc (.cells (madeCells #[.int .i64 0] n) 2)) :=
  run_make_row' 25 2 (.int .i64 0) 8 Try.underlying25 infoInt64 rfl .i64 .i64 n (by omega) (by omega) w
theorem made_row64 {w : World} {g n : Nat} (h : w.heap[g]? = some (.cells (madeCells #[.int .i64 0] n) 2 (0, 0))) : Row64 w g n (fun _ => 0) := by
  obtain ⟨c, hc, r⟩ := World.rowIs_made w (.int .i64 0) n 2
  rw [heap_alloc_new] at hc
  cases hc
  exact ⟨_, h, r.2⟩
theorem sumOf_id {n : Nat} {wt : Nat → Nat} {a : Nat} (ha : a < n) : sumOf n id wt a = wt a := by
  unfold sumOf
  rw [← total_at ha (wt a)]
  exact total_congr fun b _ => by
    by_cases e : b = a
    · subst e; simp
    · rw [if_neg e, if_neg (show ¬ id b = a from e)]
theorem setsL_id (n : Nat) (wt : Nat → Nat) : setsL n id wt = (List.range n).map fun a => (wt a : Int) := by
  unfold setsL
  rw [List.filter_eq_self.2 (fun a _ => by simp)]
  refine List.map_congr_left fun a ha => ?_
  rw [sumOf_id (List.mem_range.1 ha)]

/-- A tally under way: k of its weights are there. -/
structure Part (w : World) (A G S B : Nat) (Fd : List Nat) (t : T) (n k : Nat) (wt : Nat → Nat) (W : World) : Prop where
  head : W.heap[A]? = some (.cells #[.pointer (some ⟨A, 0, none⟩), .pointer (some ⟨S, 0, none⟩), .slice (some ⟨G, 0, none⟩) n n, .pointer (some ⟨B, 0, none⟩)] 65 (0, 0))
  row : Row64 W G n (fun i => if i < k then wt i else 0)
  sets : DsuAt W Fd S n id
  bag : Bag W B t
  nd : (A :: G :: (Fd ++ B :: t.blocks)).Nodup
  new : ∀ j, j ∈ A :: G :: (Fd ++ B :: t.blocks) → w.heap.size ≤ j
  only : Only [] w W
  items : t.items = bagOf ((List.range k).map fun a => (wt a : Int))
section
variable {w : World} {A G S B : Nat} {Fd : List Nat} {t : T} {n k : Nat} {wt : Nat → Nat} {W : World} (h : Part w A G S B Fd t n k wt W)
include h
theorem Part.keep {W' : World} (o : Only [] W W') : Part w A G S B Fd t n k wt W' :=
  ⟨(o.block A (heap_lt h.head) (by simp)).trans h.head, h.row.only o (by simp), h.sets.only o (by simp), h.bag.only o (by simp), h.nd, h.new, h.only.trans o, h.items⟩
theorem Part.parts : A ≠ G ∧ A ∉ Fd ∧ G ∉ Fd ∧ A ∉ B :: t.blocks ∧ G ∉ B :: t.blocks ∧ ∀ k, k ∈ Fd → k ∉ B :: t.blocks := by
  have h1 := List.nodup_cons.1 h.nd
  have h2 := List.nodup_cons.1 h1.2
  have h3 := List.nodup_append.1 h2.2
  refine ⟨fun e => h1.1 (by simp [e]), fun m => h1.1 (List.mem_cons_of_mem _ (List.mem_append_left _ m)), fun m => h2.1 (List.mem_append_left _ m), fun m => h1.1 (List.mem_cons_of_mem _ (List.mem_append_right _ m)), fun m => h2.1 (List.mem_append_right _ m), fun k m m' => h3.2.2 k m k m' rfl⟩
theorem Part.c : W.cell? ⟨A, 1, none⟩ = some (.pointer (some ⟨S, 0, none⟩)) ∧ W.cell? ⟨A, 2, none⟩ = some (.slice (some ⟨G, 0, none⟩) n n) ∧ W.cell? ⟨A, 3, none⟩ = some (.pointer (some ⟨B, 0, none⟩)) := ⟨cell_of_heap h.head rfl, cell_of_heap h.head rfl, cell_of_heap h.head rfl⟩
/-- A weight is stored, and added to the bag. -/
theorem Part.step {W2 W3 : World} {t' : T} (h2 : W2 = (W.setCell ⟨G, k, none⟩ (.int .i64 (wt k : Int))).drew) (hb : Became (W2.drewN 1) W3 B t t' (lput (wt k) (lcnt (wt k) t.items + 1) t.items)) : Part w A G S B Fd t' n (k + 1) wt W3 := by
  obtain ⟨pAG, pAF, pGF, pA, pG, pF⟩ := h.parts
  have o1 : Only [G] W W2 := h2 ▸ ((Only.refl [G] W).setCell (g := G) (by simp) _).drewN 1
  have o2 : Only (B :: t.blocks) W2 W3 := ((Only.refl _ W2).drewN 1).trans hb.only
  have hA := heap_lt h.head
  have hG := h.row.lt
  have s1 : W.heap.size ≤ W2.heap.size := o1.size
  have keep : ∀ j, j < W.heap.size → j ∉ B :: t.blocks → j ≠ G → W3.heap[j]? = W.heap[j]? := fun j hj hn hg => by
    rw [o2.block j (by omega) hn, o1.block j hj (by simpa using hg)]
  have fr : ∀ j, j ∈ t'.blocks → j ∈ t.blocks ∨ W.heap.size ≤ j := fun j hj => (hb.fresh j hj).imp id fun h => Nat.le_trans s1 h
  have out : ∀ j, j < W.heap.size → j ∉ B :: t.blocks → j ∉ B :: t'.blocks := fun j hj hn hm => by
    rcases List.mem_cons.1 hm with rfl | hm
    · exact hn List.mem_cons_self
    · rcases fr j hm with hm | hm
      · exact hn (List.mem_cons_of_mem _ hm)
      · omega
  have hFd : ∀ j, j ∈ Fd → j < W.heap.size := h.sets.lt
  refine ⟨(keep A hA pA pAG).trans h.head, ?_, h.sets.same fun j hj => keep j (hFd j hj) (pF j hj) (fun e => pGF (e ▸ hj)), hb.bag, ?_, fun j hj => ?_, ?_, ?_⟩
  · have r := (h.row.put k (wt k)).same (w' := W2) (by rw [h2]; rfl)
    refine (r.only o2 pG).congr fun i hi => ?_
    simp only [put]
    split
    · rename_i e; rw [if_pos (by omega), e]
    · split
      · rw [if_pos (by omega)]
      · rw [if_neg (by omega)]
  · have n4 := (List.nodup_append.1 (List.nodup_cons.1 (List.nodup_cons.1 h.nd).2).2).1
    refine List.nodup_cons.2 ⟨fun m => ?_, List.nodup_cons.2 ⟨fun m => ?_, List.nodup_append.2 ⟨n4, hb.bag.nd, fun a ha b hb e => out a (hFd a ha) (pF a ha) (e ▸ hb)⟩⟩⟩
    · rcases List.mem_cons.1 m with e | m
      · exact pAG e
      · rcases List.mem_append.1 m with m | m
        · exact pAF m
        · exact out A hA pA m
    · rcases List.mem_append.1 m with m | m
      · exact pGF m
      · exact out G hG pG m
  · have hw := h.only.size
    by_cases hl : j < W.heap.size
    · refine h.new j ?_
      simp only [List.mem_cons, List.mem_append] at hj ⊢
      rcases hj with hj | hj | hj | hj | hj
      · exact .inl hj
      · exact .inr (.inl hj)
      · exact .inr (.inr (.inl hj))
      · exact .inr (.inr (.inr (.inl hj)))
      · rcases fr j hj with hj | hj
        · exact .inr (.inr (.inr (.inr hj)))
        · omega
    · omega
  · refine (h.only.to o1 fun i hi hlt => ?_).to o2 fun i hi hlt => ?_
    · have := h.new G (by simp); simp at hi; omega
    · have := h.new i (List.mem_cons_of_mem _ (List.mem_cons_of_mem _ (List.mem_append_right _ hi))); omega
  · rw [hb.items, h.items, List.range_succ, List.map_append]
    simp only [List.map_cons, List.map_nil]
    rw [bagOf_snoc]
    rfl
theorem Part.done (hk : k = n) (hs : total n wt ≤ 3037000499) : TalAt W (A :: G :: (Fd ++ B :: t.blocks)) A n id wt := by
  subst hk
  exact ⟨G, S, B, Fd, t, _, k, rfl, h.head, h.row, h.sets, h.bag, h.nd, fun x hx _ => by rw [if_pos hx, sumOf_id hx], by rw [h.items, setsL_id], hs⟩
theorem Part.sz : t.sz = k := by rw [T.sz_items, h.items, bagOf_sz]; simp
end

/-- Behind the box of a new tally. -/
def Blank (w : World) (S : Nat) (Fd : List Nat) (n : Nat) (s : Value) (wc : World) : Prop := ∃ A G B : Nat, s = .pointer (some ⟨A, 0, none⟩) ∧ wc.heap[A]? = some (.cells #[.pointer none, .pointer (some ⟨S, 0, none⟩), .slice (some ⟨G, 0, none⟩) n n, .pointer (some ⟨B, 0, none⟩)] 65 (0, 0)) ∧
  Row64 wc G n (fun _ => 0) ∧ DsuAt wc Fd S n id ∧ Bag wc B .leaf ∧ (A :: G :: (Fd ++ [B])).Nodup ∧ (∀ j, j ∈ A :: G :: (Fd ++ [B]) → w.heap.size ≤ j) ∧ Only [] w wc
theorem Blank.part {w wc : World} {S n A G B : Nat} {Fd : List Nat} {wt : Nat → Nat} (hh : wc.heap[A]? = some (.cells #[.pointer none, .pointer (some ⟨S, 0, none⟩), .slice (some ⟨G, 0, none⟩) n n, .pointer (some ⟨B, 0, none⟩)] 65 (0, 0))) (hr : Row64 wc G n (fun _ => 0)) (hd : DsuAt wc Fd S n id) (hb : Bag wc B .leaf)
    (hn : (A :: G :: (Fd ++ [B])).Nodup) (hw : ∀ j, j ∈ A :: G :: (Fd ++ [B]) → w.heap.size ≤ j) (ho : Only [] w wc) : Part w A G S B Fd .leaf n 0 wt (wc.setCell ⟨A, 0, none⟩ (.pointer (some ⟨A, 0, none⟩))) := by
  have o : Only [A] wc (wc.setCell ⟨A, 0, none⟩ (.pointer (some ⟨A, 0, none⟩))) := (Only.refl [A] wc).setCell (by simp) _
  have h1 := List.nodup_cons.1 hn
  have hA := hw A (by simp)
  refine ⟨heap_setCell_same wc A 0 _ 65 _ hh, (hr.only o fun m => h1.1 (by simp at m; simp [m])).congr fun i _ => by simp, hd.only o fun j hj m => h1.1 (by simp at m; subst m; simp [hj]), hb.only o fun j hj m => h1.1 (by simp at m; subst m; simp [T.blocks] at hj; simp [hj]), by simpa [T.blocks] using hn, by simpa [T.blocks] using hw, ho.to o fun i hi hlt => by simp at hi; omega, rfl⟩
theorem blank_of {w w1 w2 : World} {S n B : Nat} {Fd : List Nat} (hd : DsuAt w1 Fd S n id) (hF : ∀ k, k ∈ Fd → w.heap.size ≤ k) (ho : Only [] w w1) {G : Nat} (o2 : Only [] w1 w2) (hr : Row64 w2 G n (fun _ => 0)) (hb : Bag w2 B .leaf) (hG : w1.heap.size ≤ G) (hB : w1.heap.size ≤ B) (hGB : G ≠ B) :
    Blank w S Fd n (.pointer (some ⟨w2.heap.size, 0, none⟩)) (w2.alloc (.cells #[.pointer none, .pointer (some ⟨S, 0, none⟩), .slice (some ⟨G, 0, none⟩) n n, .pointer (some ⟨B, 0, none⟩)] 65)) := by
  have o3 : Only [] w2 (w2.alloc (.cells #[.pointer none, .pointer (some ⟨S, 0, none⟩), .slice (some ⟨G, 0, none⟩) n n, .pointer (some ⟨B, 0, none⟩)] 65)) := (Only.refl [] w2).alloc _
  have l1 := hd.lt
  have l2 := hr.lt
  have l3 := hb.lt B (by simp)
  have s1 := ho.size
  have s2 := o2.size
  refine ⟨w2.heap.size, G, B, rfl, heap_alloc_new w2 _, hr.only o3 (by simp), (hd.only o2 (by simp)).only o3 (by simp), hb.only o3 (by simp), ?_, fun j hj => ?_, (ho.trans o2).trans o3⟩
  · refine List.nodup_cons.2 ⟨fun m => ?_, List.nodup_cons.2 ⟨fun m => ?_, List.nodup_append.2 ⟨hd.nodup, by simp, fun a ha b hb e => ?_⟩⟩⟩
    · rcases List.mem_cons.1 m with e | m
      · omega
      · rcases List.mem_append.1 m with m | m
        · have := l1 _ m; omega
        · simp at m; omega
    · rcases List.mem_append.1 m with m | m
      · have := l1 _ m; omega
      · simp at m; omega
    · simp at hb; have := l1 _ ha; omega
  · rcases List.mem_cons.1 hj with rfl | hj
    · omega
    · rcases List.mem_cons.1 hj with rfl | hj
      · omega
      · rcases List.mem_append.1 hj with hj | hj
        · exact hF j hj
        · simp at hj; omega

set_option maxRecDepth 100000 in
set_option maxHeartbeats 4000000 in
theorem build_ok (n K : Nat) (env : Array Value) (wt : Nat → Nat) (w : World) (hn : n ≤ 65536) (hK : Goes K) (hs : total n wt ≤ 3037000499)
    (hC : ∀ k, k < n → ∀ W, Only [] w W → Calls Try.prog K (#[.int .i64 k] ++ env) W fun e w' => e = .returned (.int .i64 (wt k)) ∧ w' = W) :
    Calls Try.prog 80 #[.int .i64 n, .func (.func K) #[] env] w fun e w' => ∃ F A, e = .returned (.tuple #[.pointer (some ⟨A, 0, none⟩), .int .i64 0]) ∧ TalAt w' F A n id wt ∧ (∀ k, k ∈ F → w.heap.size ≤ k) ∧ Only [] w w' := by
  have hmk := fun W => mk_ints64 n (by omega) W
  have CC := Lib.hid hC
  have HS := Lib.hid hs
  unfold Goes at hK
  clear hC hs
  go_enter Try.func80, Try.ntmps80
  go_wp2_with fail
  refine (DNew n hn w).mono ?_
  rintro e w1 ⟨Fd, S, rfl, hd, hF, hO⟩
  have HD := Lib.hid (And.intro hd (And.intro hF hO))
  clear hd hF hO
  go_upto_region 5 with (fail)
  go_cut [8] from 9 (fun s wc => Blank w S Fd n s wc)
  case first =>
    go_region_with (go_at_call 139; refine (New_any _).mono ?_; rintro e w2 ⟨rfl, hb, ho⟩; have HN := Lib.hid (And.intro hb ho); clear hb ho)
    all_goals go_wp2
    all_goals go_meet
    all_goals
      obtain ⟨hd, hF, hO⟩ := HD.out
      obtain ⟨hb, ho⟩ := HN.out
    · refine blank_of hd hF hO ((((Only.refl [] w1).alloc _).drewN 1).trans ho) ?_ (by simpa using hb) (Nat.le_refl _) (by omega) (by omega)
      exact (made_row64 (w := (w1.alloc (.cells (madeCells #[.int .i64 0] n) 2)).drew) (heap_alloc_new w1 _)).only ho (by simp)
    · have := blank_of (w2 := w2.alloc (.cells (madeCells #[.int .i64 0] n) 2)) hd hF hO ((((Only.refl [] w1).drewN 1).trans ho).alloc _) (made_row64 (heap_alloc_new w2 _)) (hb.alloc _) ho.size (Nat.le_refl _) (by have := hb.lt _ List.mem_cons_self; exact Nat.ne_of_gt this)
      rw [World.size_alloc] at this
      exact this
  case rest =>
    obtain ⟨A, G, B, rfl, hh, hr, hd, hb, hnd, hw, ho⟩ := hcut
    have c0 := cell_of_heap (i := 0) hh rfl
    have z0 := frozen_of_heap (i := 0) hh
    have H0 := Lib.hid (Blank.part (wt := wt) hh hr hd hb hnd hw ho)
    clear hh hr hd hb hnd hw ho
    go_wp2
    go_loopw [30] (fun i wr => ∃ (k : Nat) (t : T), k ≤ n ∧ i = .int .i64 k ∧ Hid (Part w A G S B Fd t n k wt wr)) (fun i _ => n - (intOf i).toNat)
    case atStart => exact ⟨0, .leaf, Nat.zero_le _, rfl, H0⟩
    case round =>
      obtain ⟨k, t, hk, rfl, hf⟩ := hrel
      by_cases hlt : k < n
      · obtain ⟨d1, d2, d3⟩ := hf.out.c
        have d4 := hf.out.row.cell hlt
        have z1 := hf.out.row.frozen k
        rw [if_neg (Nat.lt_irrefl k)] at d4
        have CK := Lib.hid (CC.out k hlt wr.drew (hf.out.only.drewN 1))
        go_wp2_with fail
        go_still_tail 9, (by kernel_rfl)
        still_call (CK.out)
        repeat still_step
        refine wpStill_nil ?_
        change wpList _ _ _ _ _ wr.drew
        go_wp2_with fail
        obtain ⟨W2, hW2⟩ : ∃ W2, ((wr.setCell ⟨G, k, none⟩ (.int .i64 (wt k : Int))).drew) = W2 := ⟨_, rfl⟩
        obtain ⟨pAG, pAF, pGF, pA, pG, pF⟩ := hf.out.parts
        have oG := (Only.refl [G] wr).setCell (g := G) (i := k) (by simp) (.int .i64 (wt k : Int))
        have n2 : W2.cell? ⟨A, 2, none⟩ = some (.slice (some ⟨G, 0, none⟩) n n) := by rw [← hW2]; exact cells_keep oG d2 (by simpa using pAG)
        have n3 : W2.cell? ⟨A, 3, none⟩ = some (.pointer (some ⟨B, 0, none⟩)) := by rw [← hW2]; exact cells_keep oG d3 (by simpa using pAG)
        have nk : W2.cell? ⟨G, k, none⟩ = some (.int .i64 (wt k : Int)) := by rw [← hW2]; exact World.cell?_setCell_same _ _ _ d4
        have HB := Lib.hid (show Bag W2 B t by rw [← hW2]; exact (hf.out.bag.only oG fun j hj m => pG (by simp at m; rw [← m]; exact hj)).drewN 1)
        have HW := Lib.hid hW2.symm
        have HZ := Lib.hid (show t.sz + 1 ≤ 2147483647 by rw [hf.out.sz]; omega)
        rw [hW2]
        clear d1 d2 d3 d4 z1 oG pAG pAF pGF pA pG pF hW2 CK
        go_wp2_with fail
        go_still_tail 11, (by kernel_rfl)
        go_wp2_with fail
        refine (Add_ok B t (wt k) 1 (W2.drewN 1) (HB.out.drewN 1) HZ.out).mono ?_
        rintro e W3 ⟨rfl, t', hb⟩
        have HN := Lib.hid (hf.out.step HW.out hb)
        clear hb hf HB
        go_wp2_with fail
        go_roundw
        case rel => exact ⟨k + 1, t', by omega, by go_num, HN⟩
        case measure => simp [intOf]; omega
      · obtain rfl : k = n := by omega
        go_wp2_with fail
        go_ret2
        exact ⟨_, A, rfl, hf.out.done rfl HS.out, hf.out.new, hf.out.only⟩
end Go.Proofs.Ytbafacdknaopjaa
