import Derived.WalkKit
import Derived.OpenShut
import Derived.ChangeSlices
import Derived.SizedLaws
import Derived.Laws.Cover2
import Derived.Test.YtbafacdknaopjaaYG
import Derived.Test.YtbafacdknaopjaaYF
import Derived.Test.YtbafacdknaopjaaRows
import Derived.Test.YtbafacdknaopjaaYD
/-
  A new tally: build.
-/
namespace Go.Proofs.Ytbafacdknaopjaa
open Go.RowKit
set_option linter.unusedSimpArgs false
set_option linter.unusedSectionVars false

theorem mk_ints64 (n : Nat) (hn : n ≤ 2147483647) (w : World) : (Instr.makeSlice 25 (.int .i64 (n : Int)) (.int .i64 (n : Int))).run Try.prog w = .ok (.slice (some ⟨w.heap.size, 0, none⟩) n n) (w.alloc (.cells (madeCells #[.int .i64 0] n) 2)) :=
  run_make_row' 25 2 (.int .i64 0) 8 Try.underlying25 infoInt64 rfl .i64 .i64 n (by omega) (by omega) w
theorem made_row64 {w : World} {g n : Nat} (h : w.heap[g]? = some (.cells (madeCells #[.int .i64 0] n) 2 (0, 0))) : Row64 w g n (fun _ => 0) := by
  obtain ⟨c, hc, r⟩ := World.rowIs_made w (.int .i64 0) n 2
  rw [heap_alloc_new] at hc
  cases hc
  exact ⟨_, h, r.2⟩
theorem sumOf_id {n : Nat} {wt : Nat → Nat} {a : Nat} (ha : a < n) : sumOf n id wt a = wt a := by
  unfold sumOf
  rw [← total_at ha (wt a)]
  exact total_congr fun b _ => by
    by_cases e : b = a
    · subst e; simp
    · rw [if_neg e, if_neg (show ¬ id b = a from e)]
theorem setsL_id (n : Nat) (wt : Nat → Nat) : setsL n id wt = (List.range n).map fun a => (wt a : Int) := by
  unfold setsL
  rw [List.filter_eq_self.2 (fun a _ => by simp)]
  refine List.map_congr_left fun a ha => ?_
  rw [sumOf_id (List.mem_range.1 ha)]

/-- A tally under way: k of its weights are there. -/
structure Part (w : World) (A G S B : Nat) (Fd : List Nat) (t : T) (n k : Nat) (wt : Nat → Nat) (W : World) : Prop where
  head : W.heap[A]? = some (.cells #[.pointer (some ⟨A, 0, none⟩), .pointer (some ⟨S, 0, none⟩), .slice (some ⟨G, 0, none⟩) n n, .pointer (some ⟨B, 0, none⟩)] 65 (0, 0))
  row : Row64 W G n (fun i => if i < k then wt i else 0)
  sets : DsuAt W Fd S n id
  bag : Bag W B t
  nd : (A :: G :: (Fd ++ B :: t.blocks)).Nodup
  new : ∀ j, j ∈ A :: G :: (Fd ++ B :: t.blocks) → w.heap.size ≤ j
  only : Only [] w W
  items : t.items = bagOf ((List.range k).map fun a => (wt a : Int))
section
variable {w : World} {A G S B : Nat} {Fd : List Nat} {t : T} {n k : Nat} {wt : Nat → Nat} {W : World} (h : Part w A G S B Fd t n k wt W)
include h
theorem Part.keep {W' : World} (o : Only [] W W') : Part w A G S B Fd t n k wt W' :=
  ⟨(o.block A (heap_lt h.head) (by simp)).trans h.head, h.row.only o (by simp), h.sets.only o (by simp), h.bag.only o (by simp), h.nd, h.new, h.only.trans o, h.items⟩
theorem Part.parts : A ≠ G ∧ A ∉ Fd ∧ G ∉ Fd ∧ A ∉ B :: t.blocks ∧ G ∉ B :: t.blocks ∧ ∀ k, k ∈ Fd → k ∉ B :: t.blocks := by
  have h1 := List.nodup_cons.1 h.nd
  have h2 := List.nodup_cons.1 h1.2
  have h3 := List.nodup_append.1 h2.2
  refine ⟨fun e => h1.1 (by simp [e]), fun m => h1.1 (List.mem_cons_of_mem _ (List.mem_append_left _ m)), fun m => h2.1 (List.mem_append_left _ m), fun m => h1.1 (List.mem_cons_of_mem _ (List.mem_append_right _ m)), fun m => h2.1 (List.mem_append_right _ m), fun k m m' => h3.2.2 k m k m' rfl⟩
theorem Part.c : W.cell? ⟨A, 1, none⟩ = some (.pointer (some ⟨S, 0, none⟩)) ∧ W.cell? ⟨A, 2, none⟩ = some (.slice (some ⟨G, 0, none⟩) n n) ∧ W.cell? ⟨A, 3, none⟩ = some (.pointer (some ⟨B, 0, none⟩)) := ⟨cell_of_heap h.head rfl, cell_of_heap h.head rfl, cell_of_heap h.head rfl⟩
/-- A weight is stored, and added to the bag. -/
theorem Part.step {W2 W3 : World} {t' : T} (h2 : W2 = (W.setCell ⟨G, k, none⟩ (.int .i64 (wt k : Int))).drew) (hb : Became (W2.drewN 1) W3 B t t' (lput (wt k) (lcnt (wt k) t.items + 1) t.items)) : Part w A G S B Fd t' n (k + 1) wt W3 := by
  obtain ⟨pAG, pAF, pGF, pA, pG, pF⟩ := h.parts
  have o1 : Only [G] W W2 := h2 ▸ ((Only.refl [G] W).setCell (g := G) (by simp) _).drewN 1
  have o2 : Only (B :: t.blocks) W2 W3 := ((Only.refl _ W2).drewN 1).trans hb.only
  have hA := heap_lt h.head
  have hG := h.row.lt
  have s1 : W.heap.size ≤ W2.heap.size := o1.size
  have keep : ∀ j, j < W.heap.size → j ∉ B :: t.blocks → j ≠ G → W3.heap[j]? = W.heap[j]? := fun j hj hn hg => by
    rw [o2.block j (by omega) hn, o1.block j hj (by simpa using hg)]
  have fr : ∀ j, j ∈ t'.blocks → j ∈ t.blocks ∨ W.heap.size ≤ j := fun j hj => (hb.fresh j hj).imp id fun h => Nat.le_trans s1 h
  have out : ∀ j, j < W.heap.size → j ∉ B :: t.blocks → j ∉ B :: t'.blocks := fun j hj hn hm => by
    rcases List.mem_cons.1 hm with rfl | hm
    · exact hn List.mem_cons_self
    · rcases fr j hm with hm | hm
      · exact hn (List.mem_cons_of_mem _ hm)
      · omega
  have hFd : ∀ j, j ∈ Fd → j < W.heap.size := h.sets.lt
  refine ⟨(keep A hA pA pAG).trans h.head, ?_, h.sets.same fun j hj => keep j (hFd j hj) (pF j hj) (fun e => pGF (e ▸ hj)), hb.bag, ?_, fun j hj => ?_, ?_, ?_⟩
  · have r := (h.row.put k (wt k)).same (w' := W2) (by rw [h2]; rfl)
    refine (r.only o2 pG).congr fun i hi => ?_
    simp only [put]
    split
    · rename_i e; rw [if_pos (by omega), e]
    · split
      · rw [if_pos (by omega)]
      · rw [if_neg (by omega)]
  · have n4 := (List.nodup_append.1 (List.nodup_cons.1 (List.nodup_cons.1 h.nd).2).2).1
    refine List.nodup_cons.2 ⟨fun m => ?_, List.nodup_cons.2 ⟨fun m => ?_, List.nodup_append.2 ⟨n4, hb.bag.nd, fun a ha b hb e => out a (hFd a ha) (pF a ha) (e ▸ hb)⟩⟩⟩
    · rcases List.mem_cons.1 m with e | m
      · exact pAG e
      · rcases List.mem_append.1 m with m | m
        · exact pAF m
        · exact out A hA pA m
    · rcases List.mem_append.1 m with m | m
      · exact pGF m
      · exact out G hG pG m
  · have hw := h.only.size
    by_cases hl : j < W.heap.size
    · refine h.new j ?_
      simp only [List.mem_cons, List.mem_append] at hj ⊢
      rcases hj with hj | hj | hj | hj | hj
      · exact .inl hj
      · exact .inr (.inl hj)
      · exact .inr (.inr (.inl hj))
      · exact .inr (.inr (.inr (.inl hj)))
      · rcases fr j hj with hj | hj
        · exact .inr (.inr (.inr (.inr hj)))
        · omega
    · omega
  · refine (h.only.to o1 fun i hi hlt => ?_).to o2 fun i hi hlt => ?_
    · have := h.new G (by simp); simp at hi; omega
    · have := h.new i (List.mem_cons_of_mem _ (List.mem_cons_of_mem _ (List.mem_append_right _ hi))); omega
  · rw [hb.items, h.items, List.range_succ, List.map_append]
    simp only [List.map_cons, List.map_nil]
    rw [bagOf_snoc]
    rfl
theorem Part.done (hk : k = n) (hs : total n wt ≤ 3037000499) : TalAt W (A :: G :: (Fd ++ B :: t.blocks)) A n id wt := by
  subst hk
  exact ⟨G, S, B, Fd, t, _, k, rfl, h.head, h.row, h.sets, h.bag, h.nd, fun x hx _ => by rw [if_pos hx, sumOf_id hx], by rw [h.items, setsL_id], hs⟩
theorem Part.sz : t.sz = k := by rw [T.sz_items, h.items, bagOf_sz]; simp
end

/-- Behind the box of a new tally. -/
def Blank (w : World) (S : Nat) (Fd : List Nat) (n : Nat) (s : Value) (wc : World) : Prop := ∃ A G B : Nat, s = .pointer (some ⟨A, 0, none⟩) ∧ wc.heap[A]? = some (.cells #[.pointer none, .pointer (some ⟨S, 0, none⟩), .slice (some ⟨G, 0, none⟩) n n, .pointer (some ⟨B, 0, none⟩)] 65 (0, 0)) ∧
  Row64 wc G n (fun _ => 0) ∧ DsuAt wc Fd S n id ∧ Bag wc B .leaf ∧ (A :: G :: (Fd ++ [B])).Nodup ∧ (∀ j, j ∈ A :: G :: (Fd ++ [B]) → w.heap.size ≤ j) ∧ Only [] w wc
theorem Blank.part {w wc : World} {S n A G B : Nat} {Fd : List Nat} {wt : Nat → Nat} (hh : wc.heap[A]? = some (.cells #[.pointer none, .pointer (some ⟨S, 0, none⟩), .slice (some ⟨G, 0, none⟩) n n, .pointer (some ⟨B, 0, none⟩)] 65 (0, 0))) (hr : Row64 wc G n (fun _ => 0)) (hd : DsuAt wc Fd S n id) (hb : Bag wc B .leaf)
    (hn : (A :: G :: (Fd ++ [B])).Nodup) (hw : ∀ j, j ∈ A :: G :: (Fd ++ [B]) → w.heap.size ≤ j) (ho : Only [] w wc) : Part w A G S B Fd .leaf n 0 wt (wc.setCell ⟨A, 0, none⟩ (.pointer (some ⟨A, 0, none⟩))) := by
  have o : Only [A] wc (wc.setCell ⟨A, 0, none⟩ (.pointer (some ⟨A, 0, none⟩))) := (Only.refl [A] wc).setCell (by simp) _
  have h1 := List.nodup_cons.1 hn
  have hA := hw A (by simp)
  refine ⟨heap_setCell_same wc A 0 _ 65 _ hh, (hr.only o fun m => h1.1 (by simp at m; simp [m])).congr fun i _ => by simp, hd.only o fun j hj m => h1.1 (by simp at m; subst m; simp [hj]), hb.only o fun j hj m => h1.1 (by simp at m; subst m; simp [T.blocks] at hj; simp [hj]), by simpa [T.blocks] using hn, by simpa [T.blocks] using hw, ho.to o fun i hi hlt => by simp at hi; omega, rfl⟩
theorem blank_of {w w1 w2 : World} {S n B : Nat} {Fd : List Nat} (hd : DsuAt w1 Fd S n id) (hF : ∀ k, k ∈ Fd → w.heap.size ≤ k) (ho : Only [] w w1) {G : Nat} (o2 : Only [] w1 w2) (hr : Row64 w2 G n (fun _ => 0)) (hb : Bag w2 B .leaf) (hG : w1.heap.size ≤ G) (hB : w1.heap.size ≤ B) (hGB : G ≠ B) :
    Blank w S Fd n (.pointer (some ⟨w2.heap.size, 0, none⟩)) (w2.alloc (.cells #[.pointer none, .pointer (some ⟨S, 0, none⟩), .slice (some ⟨G, 0, none⟩) n n, .pointer (some ⟨B, 0, none⟩)] 65)) := by
  have o3 : Only [] w2 (w2.alloc (.cells #[.pointer none, .pointer (some ⟨S, 0, none⟩), .slice (some ⟨G, 0, none⟩) n n, .pointer (some ⟨B, 0, none⟩)] 65)) := (Only.refl [] w2).alloc _
  have l1 := hd.lt
  have l2 := hr.lt
  have l3 := hb.lt B (by simp)
  have s1 := ho.size
  have s2 := o2.size
  refine ⟨w2.heap.size, G, B, rfl, heap_alloc_new w2 _, hr.only o3 (by simp), (hd.only o2 (by simp)).only o3 (by simp), hb.only o3 (by simp), ?_, fun j hj => ?_, (ho.trans o2).trans o3⟩
  · refine List.nodup_cons.2 ⟨fun m => ?_, List.nodup_cons.2 ⟨fun m => ?_, List.nodup_append.2 ⟨hd.nodup, by simp, fun a ha b hb e => ?_⟩⟩⟩
    · rcases List.mem_cons.1 m with e | m
      · omega
      · rcases List.mem_append.1 m with m | m
        · have := l1 _ m; omega
        · simp at m; omega
    · rcases List.mem_append.1 m with m | m
      · have := l1 _ m; omega
      · simp at m; omega
    · simp at hb; have := l1 _ ha; omega
  · rcases List.mem_cons.1 hj with rfl | hj
    · omega
    · rcases List.mem_cons.1 hj with rfl | hj
      · omega
      · rcases List.mem_append.1 hj with hj | hj
        · exact hF j hj
        · simp at hj; omega

set_option maxRecDepth 100000 in
set_option maxHeartbeats 4000000 in
theorem build_ok (n K : Nat) (env : Array Value) (wt : Nat → Nat) (w : World) (hn : n ≤ 65536) (hK : Goes K) (hs : total n wt ≤ 3037000499)
    (hC : ∀ k, k < n → ∀ W, Only [] w W → Calls Try.prog K (#[.int .i64 k] ++ env) W fun e w' => e = .returned (.int .i64 (wt k)) ∧ w' = W) :
    Calls Try.prog 80 #[.int .i64 n, .func (.func K) #[] env] w fun e w' => ∃ F A, e = .returned (.tuple #[.pointer (some ⟨A, 0, none⟩), .int .i64 0]) ∧ TalAt w' F A n id wt ∧ (∀ k, k ∈ F → w.heap.size ≤ k) ∧ Only [] w w' := by
  have hmk := fun W => mk_ints64 n (by omega) W
  have CC := Lib.hid hC
  have HS := Lib.hid hs
  unfold Goes at hK
  clear hC hs
  go_enter Try.func80, Try.ntmps80
  go_wp2_with fail
  refine (DNew n hn w).mono ?_
  rintro e w1 ⟨Fd, S, rfl, hd, hF, hO⟩
  have HD := Lib.hid (And.intro hd (And.intro hF hO))
  clear hd hF hO
  go_upto_region 5 with (fail)
  go_cut [8] from 9 (fun s wc => Blank w S Fd n s wc)
  case first =>
    go_region_with (go_at_call 139; refine (New_any _).mono ?_; rintro e w2 ⟨rfl, hb, ho⟩; have HN := Lib.hid (And.intro hb ho); clear hb ho)
    all_goals go_wp2
    all_goals go_meet
    all_goals
      obtain ⟨hd, hF, hO⟩ := HD.out
      obtain ⟨hb, ho⟩ := HN.out
    · refine blank_of hd hF hO ((((Only.refl [] w1).alloc _).drewN 1).trans ho) ?_ (by simpa using hb) (Nat.le_refl _) (by omega) (by omega)
      exact (made_row64 (w := (w1.alloc (.cells (madeCells #[.int .i64 0] n) 2)).drew) (heap_alloc_new w1 _)).only ho (by simp)
    · have := blank_of (w2 := w2.alloc (.cells (madeCells #[.int .i64 0] n) 2)) hd hF hO ((((Only.refl [] w1).drewN 1).trans ho).alloc _) (made_row64 (heap_alloc_new w2 _)) (hb.alloc _) ho.size (Nat.le_refl _) (by have := hb.lt _ List.mem_cons_self; exact Nat.ne_of_gt this)
      rw [World.size_alloc] at this
      exact this
  case rest =>
    obtain ⟨A, G, B, rfl, hh, hr, hd, hb, hnd, hw, ho⟩ := hcut
    have c0 := cell_of_heap (i := 0) hh rfl
    have z0 := frozen_of_heap (i := 0) hh
    have H0 := Lib.hid (Blank.part (wt := wt) hh hr hd hb hnd hw ho)
    clear hh hr hd hb hnd hw ho
    go_wp2
    go_loopw [30] (fun i wr => ∃ (k : Nat) (t : T), k ≤ n ∧ i = .int .i64 k ∧ Hid (Part w A G S B Fd t n k wt wr)) (fun i _ => n - (intOf i).toNat)
    case atStart => exact ⟨0, .leaf, Nat.zero_le _, rfl, H0⟩
    case round =>
      obtain ⟨k, t, hk, rfl, hf⟩ := hrel
      by_cases hlt : k < n
      · obtain ⟨d1, d2, d3⟩ := hf.out.c
        have d4 := hf.out.row.cell hlt
        have z1 := hf.out.row.frozen k
        rw [if_neg (Nat.lt_irrefl k)] at d4
        have CK := Lib.hid (CC.out k hlt wr.drew (hf.out.only.drewN 1))
        go_wp2_with fail
        go_still_tail 9, (by kernel_rfl)
        still_call (CK.out)
        repeat still_step
        refine wpStill_nil ?_
        change wpList _ _ _ _ _ wr.drew
        go_wp2_with fail
        obtain ⟨W2, hW2⟩ : ∃ W2, ((wr.setCell ⟨G, k, none⟩ (.int .i64 (wt k : Int))).drew) = W2 := ⟨_, rfl⟩
        obtain ⟨pAG, pAF, pGF, pA, pG, pF⟩ := hf.out.parts
        have oG := (Only.refl [G] wr).setCell (g := G) (i := k) (by simp) (.int .i64 (wt k : Int))
        have n2 : W2.cell? ⟨A, 2, none⟩ = some (.slice (some ⟨G, 0, none⟩) n n) := by rw [← hW2]; exact cells_keep oG d2 (by simpa using pAG)
        have n3 : W2.cell? ⟨A, 3, none⟩ = some (.pointer (some ⟨B, 0, none⟩)) := by rw [← hW2]; exact cells_keep oG d3 (by simpa using pAG)
        have nk : W2.cell? ⟨G, k, none⟩ = some (.int .i64 (wt k : Int)) := by rw [← hW2]; exact World.cell?_setCell_same _ _ _ d4
        have HB := Lib.hid (show Bag W2 B t by rw [← hW2]; exact (hf.out.bag.only oG fun j hj m => pG (by simp at m; rw [← m]; exact hj)).drewN 1)
        have HW := Lib.hid hW2.symm
        have HZ := Lib.hid (show t.sz + 1 ≤ 2147483647 by rw [hf.out.sz]; omega)
        rw [hW2]
        clear d1 d2 d3 d4 z1 oG pAG pAF pGF pA pG pF hW2 CK
        go_wp2_with fail
        go_still_tail 11, (by kernel_rfl)
        go_wp2_with fail
        refine (Add_ok B t (wt k) 1 (W2.drewN 1) (HB.out.drewN 1) HZ.out).mono ?_
        rintro e W3 ⟨rfl, t', hb⟩
        have HN := Lib.hid (hf.out.step HW.out hb)
        clear hb hf HB
        go_wp2_with fail
        go_roundw
        case rel => exact ⟨k + 1, t', by omega, by go_num, HN⟩
        case measure => simp [intOf]; omega
      · obtain rfl : k = n := by omega
        go_wp2_with fail
        go_ret2
        exact ⟨_, A, rfl, hf.out.done rfl HS.out, hf.out.new, hf.out.only⟩

end Go.Proofs.Ytbafacdknaopjaa

/-
  How an argument that is a slice of numbers reads: as a list of words, each within its kind, all of them in memory.
-/
namespace Go.Proofs.Ytbafacdknaopjaa
open Go.ChangeShapes Go.WideShapes Go.RowKit

section
variable {H : Type} {enc : TypeId × Value → H} {P : Program} {W : World} {spare : Nat → Bool} {held : Bool}

theorem cell_lt2 {w : World} {a : Addr} {v : Value} (h : w.cell? a = some v) : a.spot = none ∧ a.block < w.heap.size := by
  unfold World.cell? at h
  split at h
  · rename_i c _ _ heq
    split at h
    · cases h
    · rename_i hs
      refine ⟨by simpa using hs, ?_⟩
      exact (Array.getElem?_eq_some_iff.1 heq).1
  · cases h

/-- A slice whose elements take one cell each: what lies at its places. -/
theorem cells_in {t e : TypeId} {A : Option Addr} {len cap : Nat} {d : DataW H} {ps : List MemPlace} (ht : P.underlying t = some (.slice e)) (hc : P.cellsOf e = 1)
    (good : Value → Prop) (hgood : ∀ fuel cs x, DataW.trod enc P W 0 spare held fuel e cs = some x → ∃ v, cs = [v] ∧ good v)
    (h : DataW.Trod enc P W 0 spare held t (.slice A len cap) d ps) :
    len ≤ maxLen ∧ (len = 0 ∨ ∃ el sp, d = .slice el sp ∧ el.length = len) ∧
      (0 < len → ∃ b off, A = some ⟨b, off, none⟩ ∧ b < W.heap.size ∧ ∀ j, j < len → ∃ v, W.cell? ⟨b, off + j, none⟩ = some v ∧ good v) := by
  obtain ⟨fuel, hf⟩ := h
  rcases DataW.trod_slice ht hf with ⟨h0, _⟩ | ⟨a, len', cap', elems, rest, n, _, h1, h2, _, hl, hm, hlen, hel, _, _⟩
  · simp only [Value.cells] at h0
    obtain ⟨rfl, rfl, rfl⟩ : A = none ∧ len = 0 ∧ cap = 0 := by simpa using h0
    exact ⟨by unfold maxLen; omega, Or.inl rfl, fun h => by omega⟩
  · simp only [Value.cells] at h1
    obtain ⟨rfl, rfl, rfl⟩ : A = some a ∧ len = len' ∧ cap = cap' := by simpa using h1
    have h2' : d = .slice (elems.map (·.1)) (rest.map (·.1)) := congrArg Prod.fst h2
    refine ⟨by omega, Or.inr ⟨_, _, h2', by simp [hlen]⟩, fun h0 => ?_⟩
    have each : ∀ j, j < len → ∃ v, W.cell? (a.add j) = some v ∧ good v := by
      intro j hj
      have h3 := hel j hj
      rw [hc, Nat.mul_one, List.getElem?_eq_getElem (by omega), Option.bind_eq_some_iff] at h3
      obtain ⟨cs, hcs, hx⟩ := h3
      obtain ⟨v, rfl, hg⟩ := hgood _ _ _ hx
      exact ⟨v, cell_of_cells?_one hcs, hg⟩
    obtain ⟨v0, hv0, _⟩ := each 0 h0
    obtain ⟨hs, hb⟩ := cell_lt2 hv0
    obtain ⟨b, off, sp⟩ := a
    simp only [Addr.add] at hs hb
    have hs' : sp = none := by simpa using hs
    subst hs'
    refine ⟨b, off, rfl, by simpa using hb, fun j hj => ?_⟩
    obtain ⟨v, hv, hg⟩ := each j hj
    refine ⟨v, ?_, hg⟩
    rw [← hv]
    unfold Addr.add
    split
    · rename_i h; subst h; rfl
    · rfl

theorem slice_nil {t e : TypeId} {len cap : Nat} {d : DataW H} {ps : List MemPlace} (ht : P.underlying t = some (.slice e)) (h : DataW.Trod enc P W 0 spare held t (.slice none len cap) d ps) : cap = 0 := by
  obtain ⟨fuel, hf⟩ := h
  rcases DataW.trod_slice ht hf with ⟨h0, _⟩ | ⟨a, len', cap', elems, rest, n, _, h1, _⟩
  · simp only [Value.cells] at h0
    have h0' : len = 0 ∧ cap = 0 := by simpa using h0
    exact h0'.2
  · simp only [Value.cells] at h1
    simp at h1

/-- A list of whole numbers of one kind, as it lies in memory. -/
structure IntsIn (w : World) (k : IntKind) (A : Option Addr) (n : Nat) (f : Nat → Int) : Prop where
  row : 0 < n → ∃ b off, A = some ⟨b, off, none⟩ ∧ b < w.heap.size ∧ ∀ j, j < n → w.cell? ⟨b, off + j, none⟩ = some (.int k (f j))
  wf : ∀ j, j < n → (Lit.int k (f j)).wf = true
  len : n ≤ maxLen

theorem ints_in (k : IntKind) {t e : TypeId} {A : Option Addr} {len cap : Nat} {d : DataW H} {ps : List MemPlace} (ht : P.underlying t = some (.slice e)) (he : P.underlying e = some (.int k)) (hc : P.cellsOf e = 1)
    (h : DataW.Trod enc P W 0 spare held t (.slice A len cap) d ps) :
    ∃ f, IntsIn W k A len f ∧ (len = 0 ∨ ∃ el sp, d = .slice el sp ∧ el.length = len) := by
  obtain ⟨h1, h2, h3⟩ := cells_in ht hc (fun v => ∃ b, v = .int k b ∧ (Lit.int k b).wf = true) (fun fuel cs x hx => by
    obtain ⟨b, rfl, _, hw⟩ := DataW.trod_int he hx
    exact ⟨_, rfl, b, rfl, hw⟩) h
  by_cases h0 : 0 < len
  · obtain ⟨b, off, rfl, hb, hcell⟩ := h3 h0
    refine ⟨fun j => match W.cell? ⟨b, off + j, none⟩ with | some (.int _ x) => x | _ => 0, ⟨fun _ => ⟨b, off, rfl, hb, fun j hj => ?_⟩, fun j hj => ?_, h1⟩, h2⟩
    · obtain ⟨v, hv, x, rfl, hx⟩ := hcell j hj
      simp only [hv]
    · obtain ⟨v, hv, x, rfl, hx⟩ := hcell j hj
      simp only [hv]
      exact hx
  · exact ⟨fun _ => 0, ⟨fun h => absurd h h0, fun j hj => by omega, h1⟩, h2⟩
end

end Go.Proofs.Ytbafacdknaopjaa

/-
  A new tally: New, Even.
-/
namespace Go.Proofs.Ytbafacdknaopjaa
open Go.RowKit
set_option linter.unusedSimpArgs false
set_option linter.unusedSectionVars false

theorem IntsIn.cell {w : World} {k : IntKind} {A : Option Addr} {n : Nat} {f : Nat → Int} (h : IntsIn w k A n f) {j : Nat} (hj : j < n) : ∃ b off, A = some ⟨b, off, none⟩ ∧ w.cell? ⟨b, off + j, none⟩ = some (.int k (f j)) := by
  obtain ⟨b, off, hA, _, hc⟩ := h.row (by omega)
  exact ⟨b, off, hA, hc j hj⟩
theorem IntsIn.only {w w' : World} {k : IntKind} {A : Option Addr} {n : Nat} {f : Nat → Int} (h : IntsIn w k A n f) (hO : Only [] w w') : IntsIn w' k A n f :=
  ⟨fun hn => by
    obtain ⟨b, off, hA, hb, hc⟩ := h.row hn
    exact ⟨b, off, hA, Nat.lt_of_lt_of_le hb hO.size, fun j hj => (World.cell?_of_block (w := w) (hO.block b hb (by simp))).trans (hc j hj)⟩, h.wf, h.len⟩
theorem wf_i64 {n : Int} (h : (Lit.int .i64 n).wf = true) : -9223372036854775808 ≤ n ∧ n ≤ 9223372036854775807 := by simpa [Lit.wf, IntKind.min, IntKind.max, IntKind.bits, IntKind.signed] using h

set_option maxRecDepth 100000 in
theorem build_bad (n : Int) (v : Value) (w : World) (hn : n < 0 ∨ 65536 < n) : Calls Try.prog 80 #[.int .i64 n, v] w fun e w' => e = .returned (.tuple #[.pointer none, .int .i64 2]) ∧ w = w' := by
  have CN := Lib.hid (DNew_bad n hn w)
  clear hn
  go_enter Try.func80, Try.ntmps80
  go_wp2_with fail
  refine CN.out.mono ?_
  rintro e w' ⟨rfl, rfl⟩
  go_wp2_with fail
  go_ret2
  exact ⟨rfl, rfl⟩

set_option maxRecDepth 100000 in
theorem even1_any (k : Int) (W : World) : Calls Try.prog 89 #[.int .i64 k] W fun e w' => e = .returned (.int .i64 1) ∧ w' = W := by
  go_enter Try.func89, Try.ntmps89
  go_wp2
  go_ret
  exact ⟨rfl, rfl⟩
theorem total_ones (n : Nat) : total n (fun _ => 1) = n := by
  induction n with
  | zero => rfl
  | succ n ih => simp only [total, ih]
set_option maxRecDepth 100000 in
theorem TEven (n : Nat) (hn : n ≤ 65536) (w : World) : Calls Try.prog 39 #[.int .i64 n] w fun e w' => ∃ F A, e = .returned (.tuple #[.pointer (some ⟨A, 0, none⟩), .int .i64 0]) ∧ TalAt w' F A n id (fun _ => 1) ∧ (∀ k, k ∈ F → w.heap.size ≤ k) ∧ Only [] w w' := by
  have CB := Lib.hid (build_ok n 89 #[] (fun _ => 1) w hn (fun _ _ => by kernel_rfl) (by rw [total_ones]; omega) (fun k _ W _ => even1_any k W))
  go_enter Try.func39, Try.ntmps39
  go_wp2_with fail
  refine CB.out.mono ?_
  rintro e w1 ⟨F, A, rfl, ht, hF, hO⟩
  have H := Lib.hid (And.intro ht (And.intro hF hO))
  clear ht hF hO
  go_wp2_with fail
  go_ret2
  exact ⟨F, A, rfl, H.out⟩
set_option maxRecDepth 100000 in
theorem TEven_bad (n : Int) (hn : n < 0 ∨ 65536 < n) (w : World) : Calls Try.prog 39 #[.int .i64 n] w fun e w' => e = .returned (.tuple #[.pointer none, .int .i64 2]) ∧ w = w' := by
  have CB := Lib.hid (fun v => build_bad n v w hn)
  clear hn
  go_enter Try.func39, Try.ntmps39
  go_wp2_with fail
  refine (CB.out _).mono ?_
  rintro e w' ⟨rfl, rfl⟩
  go_wp2_with fail
  go_ret2
  exact ⟨rfl, rfl⟩

/-- The weights of New are within what it allows. -/
def Fit (f : Nat → Int) (k : Nat) : Prop := ∀ j, j < k → 0 ≤ f j ∧ f j ≤ 1099511627776
instance (f : Nat → Int) (k : Nat) : Decidable (Fit f k) := inferInstanceAs (Decidable (∀ j, j < k → 0 ≤ f j ∧ f j ≤ 1099511627776))
def wtOf (f : Nat → Int) : Nat → Nat := fun j => (f j).toNat
/-- The error of New. -/
def newCode (n : Nat) (f : Nat → Int) : Int := if n ≤ 65536 ∧ Fit f n then (if total n (wtOf f) ≤ 3037000499 then 0 else 7) else 2
theorem newCode_long {n : Nat} {f : Nat → Int} (h : 65536 < n) : newCode n f = 2 := if_neg fun e => by omega
theorem newCode_bad {n k : Nat} {f : Nat → Int} (hk : k < n) (h : f k < 0 ∨ 1099511627776 < f k) : newCode n f = 2 := if_neg fun e => by have := e.2 k hk; omega
theorem newCode_over {n : Nat} {f : Nat → Int} (hn : n ≤ 65536) (h : Fit f n) (ht : 3037000499 < total n (wtOf f)) : newCode n f = 7 := by unfold newCode; rw [if_pos ⟨hn, h⟩, if_neg (by omega)]
theorem newCode_ok {n : Nat} {f : Nat → Int} (hn : n ≤ 65536) (h : Fit f n) (ht : total n (wtOf f) ≤ 3037000499) : newCode n f = 0 := by unfold newCode; rw [if_pos ⟨hn, h⟩, if_pos ht]
/-- How New ends. -/
def NewPost (n : Nat) (f : Nat → Int) (w : World) (e : Ending) (w' : World) : Prop := (newCode n f ≠ 0 ∧ e = .returned (.tuple #[.pointer none, .int .i64 (newCode n f)]) ∧ Only [] w w') ∨
  (newCode n f = 0 ∧ ∃ F A, e = .returned (.tuple #[.pointer (some ⟨A, 0, none⟩), .int .i64 0]) ∧ TalAt w' F A n id (wtOf f) ∧ (∀ k, k ∈ F → w.heap.size ≤ k) ∧ Only [] w w')
theorem NewPost.err {n : Nat} {f : Nat → Int} {w w' : World} {c : Int} (hc : newCode n f = c) (h0 : c ≠ 0) (o : Only [] w w') : NewPost n f w (.returned (.tuple #[.pointer none, .int .i64 c])) w' := by
  subst hc; exact .inl ⟨h0, rfl, o⟩
theorem total_wt {n : Nat} {f : Nat → Int} (h : Fit f n) : total n (wtOf f) ≤ n * 1099511627776 := by
  induction n with
  | zero => exact Nat.le_refl _
  | succ n ih =>
    have := ih fun j hj => h j (by omega)
    have := h n (by omega)
    unfold wtOf at *
    simp only [total]
    omega
theorem sq_over {s : Nat} (h0 : 0 < s) : decide ((s : Int) > 9223372036854775807 / (s : Int)) = decide (3037000499 < s) := by
  rw [decide_eq_decide]
  have e : (9223372036854775807 : Int) / (s : Int) = ((9223372036854775807 / s : Nat) : Int) := rfl
  rw [e]
  by_cases h : 3037000499 < s
  · have h1 : 9223372036854775807 / s < s := (Nat.div_lt_iff_lt_mul h0).2 (Nat.lt_of_lt_of_le (by decide) (Nat.mul_le_mul h h))
    omega
  · have h1 : s ≤ 9223372036854775807 / s := (Nat.le_div_iff_mul_le h0).2 (Nat.le_trans (Nat.mul_le_mul (show s ≤ 3037000499 by omega) (show s ≤ 3037000499 by omega)) (by decide))
    omega

set_option maxRecDepth 100000 in
theorem new1_any (Bw k n c : Nat) (A : Option Addr) (f : Nat → Int) (W : World) (hb : W.cell? ⟨Bw, 0, none⟩ = some (.slice A n c)) (h : IntsIn W .i64 A n f) (hk : k < n) :
    Calls Try.prog 81 #[.int .i64 k, .pointer (some ⟨Bw, 0, none⟩)] W fun e w' => e = .returned (.int .i64 (f k)) ∧ w' = W := by
  obtain ⟨b, off, rfl, hc⟩ := h.cell hk
  have hl := h.len
  unfold maxLen at hl
  clear h
  go_enter Try.func81, Try.ntmps81
  go_wp2
  go_ret
  exact ⟨rfl, rfl⟩

set_option maxRecDepth 100000 in
set_option maxHeartbeats 4000000 in
theorem New_walk (A : Option Addr) (n c : Nat) (f : Nat → Int) (w : World) (h : IntsIn w .i64 A n f) : Calls Try.prog 34 #[.slice A n c] w (NewPost n f w) := by
  have hl := h.len
  unfold maxLen at hl
  obtain ⟨w1, hw1⟩ : ∃ w1, w.alloc (.cells #[.slice A n c] 25) = w1 := ⟨_, rfl⟩
  have hO1 : Only [] w w1 := hw1 ▸ (Only.refl [] w).alloc _
  have k1 := heap_alloc_new w (.cells #[.slice A n c] 25)
  rw [hw1] at k1
  have c1 := cell_of_heap (i := 0) k1 rfl
  replace c1 : w1.cell? ⟨w.heap.size, 0, none⟩ = some (.slice A n c) := c1
  have HI := Lib.hid (h.only hO1)
  have HO := Lib.hid hO1
  have HW := Lib.hid hw1
  clear h hO1 k1 hw1
  by_cases hn : 65536 < n
  · have HC := Lib.hid (newCode_long (f := f) hn)
    go_enter Try.func34, Try.ntmps34
    go_wp2_with fail
    rw [HW.out]
    go_wp2_with fail
    go_ret2
    exact NewPost.err HC.out (by decide) HO.out
  · go_enter Try.func34, Try.ntmps34
    go_wp2_with fail
    rw [HW.out]
    go_wp2_with fail
    go_loop [4, 12] (fun s i => ∃ k : Nat, k ≤ n ∧ i = .int .i64 k ∧ s = .int .i64 (total k (wtOf f)) ∧ Hid (Fit f k)) (fun _ i => n - (intOf i).toNat)
    case atStart => exact ⟨0, Nat.zero_le _, rfl, rfl, Lib.hid fun j hj => by omega⟩
    case round =>
      obtain ⟨k, hk, rfl, rfl, hf⟩ := hrel
      have ht := total_wt hf.out
      have ht2 : total k (wtOf f) ≤ 72057594037927936 := by omega
      clear ht
      by_cases hlt : k < n
      · obtain ⟨b, off, rfl, hc⟩ := HI.out.cell hlt
        by_cases h1 : f k < 0
        · have HC := Lib.hid (newCode_bad hlt (.inl h1))
          go_wp2_with fail
          go_ret2
          exact NewPost.err HC.out (by decide) HO.out
        · by_cases h2 : 1099511627776 < f k
          · have HC := Lib.hid (newCode_bad hlt (.inr h2))
            go_wp2_with fail
            go_ret2
            exact NewPost.err HC.out (by decide) HO.out
          · have HF := Lib.hid (show Fit f (k + 1) from fun j hj => by
              by_cases e : j = k
              · subst e; omega
              · exact hf.out j (by omega))
            have HT := Lib.hid (show (total (k + 1) (wtOf f) : Int) = total k (wtOf f) + f k by simp only [total, wtOf]; omega)
            go_wp2_with fail
            go_round
            case rel => exact ⟨k + 1, by omega, by go_num, by rw [HT.out], HF⟩
            case measure => simp [intOf]; omega
      · obtain rfl : k = n := by omega
        have HT := Lib.hid (show 0 < total k (wtOf f) → decide ((total k (wtOf f) : Int) > 9223372036854775807 / (total k (wtOf f) : Int)) = decide (3037000499 < total k (wtOf f)) from sq_over)
        have CB := Lib.hid (fun (hs : total k (wtOf f) ≤ 3037000499) => build_ok k 81 #[.pointer (some ⟨w.heap.size, 0, none⟩)] (wtOf f) w1 (by omega) (fun _ _ => by kernel_rfl) hs (fun j hj W hO => by
          have := new1_any w.heap.size j k c A f W (cells_keep hO c1 (by simp)) (HI.out.only hO) hj
          have e : ((wtOf f j : Nat) : Int) = f j := by have := hf.out j hj; unfold wtOf; omega
          rw [e]; exact this))
        have HC1 := Lib.hid (fun h => newCode_over (n := k) (f := f) (by omega) hf.out h)
        have HC2 := Lib.hid (fun h => newCode_ok (n := k) (f := f) (by omega) hf.out h)
        obtain ⟨s, hs⟩ : ∃ s, total k (wtOf f) = s := ⟨_, rfl⟩
        rw [hs] at HT CB HC1 HC2 ht2 ⊢
        clear hs
        by_cases h0 : 0 < s
        · by_cases h3 : 3037000499 < s
          · have q := HT.out h0
            rw [decide_eq_true h3] at q
            have HC := Lib.hid (HC1.out h3)
            clear h3
            go_wp2_with fail
            go_ret2
            exact NewPost.err HC.out (by decide) HO.out
          · have q := HT.out h0
            rw [decide_eq_false h3] at q
            have HC := Lib.hid (HC2.out (by omega))
            have CB' := Lib.hid (CB.out (by omega))
            clear h3
            go_wp2_with fail
            refine CB'.out.mono ?_
            rintro e w2 ⟨F, A', rfl, ht, hF, hO⟩
            have HE := Lib.hid (show NewPost k f w _ w2 from .inr ⟨HC.out, F, A', rfl, ht, fun j hj => Nat.le_trans HO.out.size (hF j hj), HO.out.trans hO⟩)
            clear ht hF hO
            go_wp2_with fail
            go_ret2
            exact HE.out
        · have q : decide ((s : Int) > 0) = false := by simp; omega
          have HC := Lib.hid (HC2.out (by omega))
          have CB' := Lib.hid (CB.out (by omega))
          go_wp2_with fail
          refine CB'.out.mono ?_
          rintro e w2 ⟨F, A', rfl, ht, hF, hO⟩
          have HE := Lib.hid (show NewPost k f w _ w2 from .inr ⟨HC.out, F, A', rfl, ht, fun j hj => Nat.le_trans HO.out.size (hF j hj), HO.out.trans hO⟩)
          clear ht hF hO
          go_wp2_with fail
          go_ret2
          exact HE.out
theorem TNew {A : Option Addr} {n c : Nat} {f : Nat → Int} {w : World} (h : IntsIn w .i64 A n f) (h0 : newCode n f = 0) : Calls Try.prog 34 #[.slice A n c] w fun e w' =>
    ∃ F A', e = .returned (.tuple #[.pointer (some ⟨A', 0, none⟩), .int .i64 0]) ∧ TalAt w' F A' n id (wtOf f) ∧ (∀ k, k ∈ F → w.heap.size ≤ k) ∧ Only [] w w' :=
  (New_walk A n c f w h).mono fun _ _ h => by
    rcases h with ⟨h1, _⟩ | ⟨_, h2⟩
    · exact absurd h0 h1
    · exact h2
theorem TNew_err {A : Option Addr} {n c : Nat} {f : Nat → Int} {w : World} (h : IntsIn w .i64 A n f) (h0 : newCode n f ≠ 0) : Calls Try.prog 34 #[.slice A n c] w fun e w' => e = .returned (.tuple #[.pointer none, .int .i64 (newCode n f)]) ∧ Only [] w w' :=
  (New_walk A n c f w h).mono fun _ _ h => by
    rcases h with ⟨_, h2⟩ | ⟨h1, _⟩
    · exact h2
    · exact absurd h1 h0

end Go.Proofs.Ytbafacdknaopjaa

/-
  The iterator over the weights of a tally.
-/
namespace Go.Proofs.Ytbafacdknaopjaa
open Go.RowKit Go.Shelf
attribute [local go_sem] Oper.semAt_some
set_option linter.unusedSimpArgs false

/-- What the parts of a tally give its iterator, from here on. -/
structure WeighOf (W : World) (a : Addr) (B : Option Addr) (t : T) : Prop where
  here : W.cell? ⟨a.block, 3, none⟩ = some (.pointer B)
  tree : TreeOf W B t
  valid : ∀ W1, Only [] W W1 → Calls Try.prog 72 #[.pointer (some a)] W1 fun e w' => e = .returned (.bool true) ∧ W1 = w'
theorem WeighOf.only {W W1 : World} {a : Addr} {B : Option Addr} {t : T} (h : WeighOf W a B t) (ho : Only [] W W1) : WeighOf W1 a B t :=
  ⟨cells_keep ho h.here (by simp), h.tree.only ho, fun W2 h2 => h.valid W2 (ho.trans h2)⟩
theorem Tal.weigh {W : World} {A G S B : Nat} {Fd : List Nat} {t : T} {f : Nat → Nat} {cg n : Nat} {lab wt : Nat → Nat} (h : Tal W A G S B Fd t f cg n lab wt) : WeighOf W ⟨A, 0, none⟩ (some ⟨B, 0, none⟩) t :=
  ⟨h.c.2.2, h.bag.treeOf, fun _ ho => tvalid_any (h.same fun k hk => ho.block k (h.lt k hk) (by simp))⟩

set_option maxRecDepth 100000 in
set_option maxHeartbeats 4000000 in
theorem weights1_iter (n Tb A : Nat) (hn : 3 ≤ n) (B : Option Addr) (t : T) (w : World) (hT : WeighOf w ⟨A, 0, none⟩ B t) (hTb : w.cell? ⟨Tb, 0, none⟩ = some (.pointer (some ⟨A, 0, none⟩))) :
    Iter n 141 #[.pointer (some ⟨Tb, 0, none⟩)] t.items w := by
  intro l J Jx W hO hl hJ hJx hY h0
  have c1 : W.cell? ⟨Tb, 0, none⟩ = some (.pointer (some ⟨A, 0, none⟩)) := cells_keep hO hTb (by simp)
  have hT0 := hT.only hO
  obtain ⟨W0, hW0⟩ : ∃ W0, W.alloc (.cells #[.func (.yield l) #[] #[]] 204) = W0 := ⟨_, rfl⟩
  have hO0 : Only [] W W0 := hW0 ▸ (Only.refl [] W).alloc _
  have hT1 := hT0.only hO0
  have c2 := cells_keep hO0 c1 (by simp)
  have c3 := hT1.here
  replace c3 : W0.cell? ⟨A, 3, none⟩ = some (.pointer B) := c3
  have hYb : Boxed W0 W.heap.size 204 (.func (.yield l) #[] #[]) := hW0 ▸ heap_alloc_new W _
  have CV := Lib.hid (hT1.valid W0 (Only.refl _ _))
  have HW := Lib.hid hW0
  have HT := Lib.hid hT1
  have HO0 := Lib.hid hO0
  have hJ0 := Lib.hid (show J [] W0 by rw [← hW0]; exact hJ.alloc _ h0)
  have hsz : W0.heap.size = W.heap.size + 1 := by rw [← hW0, World.size_alloc]
  have hb1 := cell_lt c1
  clear hT hTb hO hT0 hO0 hW0 hT1 h0
  refine callsIn_of_wp_marks Try.func141 rfl trivial ?_ rfl
  simp only [Try.ntmps141, List.size_toArray, List.length_cons, List.length_nil, Nat.reduceAdd, Nat.reduceSub, Array.replicate_succ, Array.replicate_zero, List.push_toArray, List.append_toArray, List.nil_append, List.cons_append]
  have hdp : ∀ m : Nat, (Fence.wide.depth.isSome = true → 1 ≤ m) := fun m h => by cases h
  gi_wp2_with fail
  rw [HW.out]
  clear c1
  refine ⟨trivial, hdp _, callsIn_wide.2 (CV.out.mono ?_)⟩
  rintro e w' ⟨rfl, rfl⟩
  gi_wp2_with fail
  refine ⟨trivial, hdp _, callsIn_wide.2 ((All_any _ _).mono ?_)⟩
  rintro e w' ⟨rfl, rfl⟩
  gi_wp2_with fail
  obtain ⟨W2, hW2⟩ : ∃ W2, W0.alloc (.cells #[.pointer B] 63) = W2 := ⟨_, rfl⟩
  have hO2 : Only [] W0 W2 := hW2 ▸ (Only.refl [] W0).alloc _
  have hs2 : W2.heap.size = W0.heap.size + 1 := by rw [← hW2, World.size_alloc]
  have hbx : Boxed W2 (W.heap.size + 1) 63 (.pointer B) := by rw [← hsz, ← hW2]; exact heap_alloc_new W0 _
  have hyx : Boxed W2 W.heap.size 204 (.func (.yield l) #[] #[]) := hW2 ▸ hYb.alloc _
  have hJ2 : J [] W2 := by rw [← hW2]; exact hJ.alloc _ hJ0.out
  have HT2 := Lib.hid (HT.out.tree.only hO2)
  rw [hW2]
  have lift : ∀ {β : Type} {K : β → World → Prop}, OwnFrom W.heap.size K → OwnFrom W2.heap.size K := fun hK s A C row hs hg' hr => hK s A C row hs hg' fun r e => ⟨by have := (hr r e).1; omega, (hr r e).2⟩
  refine wpIn_rangeFunc_ownG rfl (by omega) (gf := 167) (lb := #[.pointer (some ⟨W.heap.size + 1, 0, none⟩)]) rfl trivial (enters_of Try.func167 (by kernel_rfl) rfl)
    (encs := fun x : Int × Nat => #[.int .i64 x.1, .int .i64 x.2]) (Kp := KeepT) (S := fun ys => ys = t.items) (Sp := fun pre => pre <+: t.items) (N := t.items.length)
    (w0 := W2) ?seq KeepT.trans (fun W l o o' _ h hc _ => keepT_put o' h hc) (Below.refl _ _) (fun _ => rfl)
    (fun pre W3 => J pre W3 ∧ Boxed W3 W.heap.size 204 (.func (.yield l) #[] #[])) (fun c pre W3 => c = .ret ∧ Jx pre W3) ?own1 ?own2 ⟨hJ2, hyx⟩ ?fr ?assign ?body ?done ?stop
  case seq =>
    intro l2 J2 Jx2 W3 hW3 hJa _ hY2 hJ0'
    have hOW : Only [] W2 W3 := ⟨hW3.os, hW3.tape, hW3.output, hW3.size, fun k hk _ => hW3.block k hk⟩
    exact all1_in (n - 1) l2 (W.heap.size + 1) B t J2 Jx2 W3 (HT2.out.only hOW) (cell_of_heap ((hW3.block _ (by omega)).trans hbx) rfl) hJa (fun pre x post W1 hL hj => hY2 pre x W1 hj (by rw [hL]; simp)) hJ0'
  case own1 =>
    intro s X Y row hs hg hr
    exact ⟨lift hJ s X Y row hs.1 hg hr, (grownBy_keeps_cells hg (fun r e => (hr r e).2) hs.2 rfl).trans hs.2⟩
  case own2 => exact fun c s X Y row hs hg hr => ⟨hs.1, lift hJx s X Y row hs.2 hg hr⟩
  case assign =>
    intro l2 x W3 K hK
    gi_wp2
    exact hK
  case body =>
    rintro l2 pre x W3 ⟨hj, hbox⟩ hlt
    have c5 := hbox.cell
    obtain ⟨fn, tmps, assign, body, hyr, hR⟩ := hY pre x W3 hj hlt
    have HR := Lib.hid hR
    have HB := Lib.hid hbox
    clear hR hbox hj
    gi_wp2
    refine ⟨hdp _, (show RoundIn Fence.wide (n - 1 - 1 - 1) Try.prog l fn tmps assign body W3 _ from RoundIn.anyDepth' HR.out).mono ?_⟩
    rintro e W' (⟨rfl, hj', hk⟩ | ⟨rfl, hx, hk⟩)
    · have HJ := Lib.hid (And.intro hj' hk)
      clear hj' hk
      gi_wp2
      obtain ⟨hj', hk⟩ := HJ.out
      exact ⟨⟨hk.2.1, fun k o hle ho hc => hk.2.2 k o (by omega) ho hc⟩, hk.1, hj', hk.1 _ _ _ (.inr rfl) HB.out⟩
    · have HX := Lib.hid (And.intro hx hk)
      clear hx hk
      gi_wp2
      obtain ⟨hx, hk⟩ := HX.out
      exact ⟨⟨hk.1, fun k o hle ho hc => hk.2 k o (by omega) ho hc⟩, rfl, hx⟩
  case done =>
    rintro D ys W3 hD rfl ⟨hj, _⟩ hK
    have HJ := Lib.hid (hJ.putObj (.deferred none) hj (by omega) hK rfl)
    gi_wp2
    refine ⟨by simp, .inl ⟨_, _, rfl, run_takeDeferred hK, ?_⟩⟩
    exact ⟨_, results_none rfl _ _ _, ⟨_, rfl⟩, .inl HJ.out⟩
  case stop =>
    rintro D c pre W3 hD hpre ⟨rfl, hjx⟩ hK
    have HJ := Lib.hid (hJx.putObj (.deferred none) hjx (by omega) hK rfl)
    gi_wp2
    refine ⟨by simp, .inl ⟨_, _, rfl, run_takeDeferred hK, ?_⟩⟩
    exact ⟨_, results_none rfl _ _ _, ⟨_, rfl⟩, .inr ⟨pre, hpre, HJ.out⟩⟩

end Go.Proofs.Ytbafacdknaopjaa

/-
  The weights of a tally, collected.
-/
namespace Go.Proofs.Ytbafacdknaopjaa
open Go.RowKit Go.Shelf
attribute [local go_sem] Oper.semAt_some
set_option linter.unusedSimpArgs false

theorem run_eql_seq_nil (f : Fn) (b : Array Value) (w : World) : (binOp .eql 141 (.func f #[] b) .nilFunc).run Try.prog w = .ok (.bool false) w := by
  have h : ∀ d : Nat, (Op.equalIn (d + 1) 141 (.func f #[] b) .nilFunc).run Try.prog w = .ok false w := fun d => by
    simp [Op.equalIn, run_underlying Try.underlying141]
  simp only [binOp]
  simp [Op.equal, Op.maxDepth, h 9999]
attribute [local go_sem] run_eql_seq_nil
theorem infoPair : (Try.prog.info? 48).map (fun i => (i.zero, i.size, i.bytes)) = some (some (.agg #[.int .i64 0, .int .i64 0]), 2, 16) := by kernel_rfl
def cellsIt : Items → List Value
  | [] => []
  | p :: l => .int .i64 p.1 :: .int .i64 p.2 :: cellsIt l
theorem cellsIt_append (a b : Items) : cellsIt (a ++ b) = cellsIt a ++ cellsIt b := by
  induction a with
  | nil => rfl
  | cons p a ih => simp only [List.cons_append, cellsIt, ih]
theorem keepT_b {w : World} (W : World) (l : Nat) (o o' : Obj) (_ : w.heap.size ≤ l) (h : W.heap[l]? = some o) (hc : o.isCells = false) (_ : o.isWalk = false) : KeepT W (W.putObj l o') := by
  intro k cs t _ hk
  have hne : k ≠ l := by
    rintro rfl
    rw [h] at hk
    cases hk
    simp [Obj.isCells] at hc
  rw [World.putObj_heap_other hne]
  exact hk

theorem cell_two_new (w : World) (x y : Value) (t : TypeId) : ∀ j u, [x, y][j]? = some u → (w.alloc (.cells #[x, y] t)).cell? ((⟨w.heap.size, 0, none⟩ : Addr).add j) = some u := by
  intro j u h
  have hh := heap_alloc_new w (.cells #[x, y] t)
  have e : ((⟨w.heap.size, 0, none⟩ : Addr).add j) = ⟨w.heap.size, j, none⟩ := by unfold Addr.add; split <;> simp_all
  rw [e]
  exact cell_of_heap hh (by simpa using h)
theorem row_slice {W : World} {base e size n : Nat} {v : Value} {xs : List Value} (h : W.ownsRow base e size v n xs) : ∃ A c, v = .slice A n c := by
  rcases h.2 with ⟨rfl, rfl⟩ | ⟨g, cap, cur, rfl, _⟩
  · exact ⟨_, _, rfl⟩
  · exact ⟨_, _, rfl⟩
theorem kept_appended {W w3 : World} {n0 B e size n k : Nat} {v v' : Value} {xs : List Value} {tmp : Obj} {cs : Array Value} {T : TypeId} {f : Nat × Nat} (hrow : W.ownsRow n0 e size v n xs) (hg : (W.alloc tmp).grownBy w3 v.ownBlock) (hk : W.heap[k]? = some (.cells cs T f)) (hT : T ≠ e) (hB : k ≠ B) :
    (w3.setCell ⟨B, 0, none⟩ v').heap[k]? = some (.cells cs T f) := by
  rw [heap_setCell_other _ _ _ _ (by exact hB)]
  have h1 : k < W.heap.size := heap_lt hk
  rw [hg.block k (by rw [World.size_alloc]; omega) ?_, heap_alloc_old _ _ h1, hk]
  rintro h
  rcases hrow.2 with ⟨rfl, _⟩ | ⟨g, cap, cur, rfl, _, hgb, _⟩
  · simp [Value.ownBlock] at h
  · obtain rfl : k = g := by simpa [Value.ownBlock] using h
    rw [hgb] at hk
    cases hk
    exact hT rfl
theorem keepT_appended {W w3 : World} {n0 B e size n : Nat} {v v' : Value} {xs : List Value} {tmp : Obj} {t : TypeId} (hv : Boxed W B t v) (hrow : W.ownsRow n0 e size v n xs) (hg : (W.alloc tmp).grownBy w3 v.ownBlock)
    (ht : t ≠ 194 ∧ t ≠ 204) (he : e ≠ 194 ∧ e ≠ 204) : KeepT W (w3.setCell ⟨B, 0, none⟩ v') := by
  intro k cs T hT hk
  refine kept_appended hrow hg hk (fun e' => ?_) (fun e' => ?_)
  · subst e'; rcases hT with h | h
    · exact he.1 h
    · exact he.2 h
  · subst e'
    rw [show W.heap[k]? = _ from hv] at hk
    cases hk
    rcases hT with h | h
    · exact ht.1 h
    · exact ht.2 h
/-- What the collecting loop keeps, beside its slice. -/
def Gets (w : World) (m : Nat) (pre : Items) (W : World) : Prop :=
  ((∃ v, Boxed W (w.heap.size + 1) 45 v ∧ W.ownsRow w.heap.size 48 2 v pre.length (cellsIt pre) ∧ True) ∧ Boxed W w.heap.size 3 (.int .i64 m) ∧ pre.length ≤ m) ∧ Below w.heap.size w W
def Left (w : World) (m : Nat) (c : Code) (pre : Items) (W : World) : Prop :=
  (∃ q v, (c = .exit 0 ∧ q <+: pre ∧ q.length = m) ∧ Boxed W (w.heap.size + 1) 45 v ∧ W.ownsRow w.heap.size 48 2 v q.length (cellsIt q)) ∧ Below w.heap.size w W
theorem gets_own (w w1 : World) (m : Nat) (h : w.heap.size ≤ w1.heap.size) : OwnFrom w1.heap.size (Gets w m) := by
  refine OwnFrom.and (Own.from (fun s X Y row hs hg hr => ?_) _) (ownFrom_below (Nat.le_refl _) h)
  obtain ⟨h1, h2, h3⟩ := hs
  refine ⟨holdsRow_own w.heap.size (w.heap.size + 1) 45 48 2 List.length cellsIt (fun _ _ => True) s X Y row h1 hg hr, h2.kept hg (fun e' => ?_), h3⟩
  obtain ⟨o, ho, hc⟩ := hr _ e'.symm
  rw [show X.heap[w.heap.size]? = _ from h2] at ho; cases ho; cases hc
theorem left_own (w w1 : World) (m : Nat) (c : Code) (h : w.heap.size ≤ w1.heap.size) : OwnFrom w1.heap.size (Left w m c) := by
  refine OwnFrom.and (Own.from (fun s X Y row hs hg hr => ?_) _) (ownFrom_below (Nat.le_refl _) h)
  obtain ⟨q, v, h0, h1, h2⟩ := hs
  obtain ⟨v', k1, k2, _⟩ := holdsRow_own w.heap.size (w.heap.size + 1) 45 48 2 List.length cellsIt (fun _ _ => True) q X Y row ⟨v, h1, h2, trivial⟩ hg hr
  exact ⟨q, v', h0, k1, k2⟩

set_option maxRecDepth 100000 in
theorem Weights_any (a : Option Addr) (w : World) : Calls Try.prog 88 #[.pointer a] w fun e w' => e = .returned (.func (.func 141) #[] #[.pointer (some ⟨w.heap.size, 0, none⟩)]) ∧ w.alloc (.cells #[.pointer a] 24) = w' := by
  go_enter Try.func88, Try.ntmps88
  go_wp2
  go_ret
  exact ⟨rfl, rfl⟩

/-- What the iterator over the weights of a tally goes over, from here on. -/
def Over (w : World) (a : Option Addr) (L : Items) : Prop := ∀ (n Tb : Nat) (W : World), 3 ≤ n → Only [] w W → W.cell? ⟨Tb, 0, none⟩ = some (.pointer a) → Iter n 141 #[.pointer (some ⟨Tb, 0, none⟩)] L W
theorem WeighOf.over {w : World} {A : Nat} {B : Option Addr} {t : T} (h : WeighOf w ⟨A, 0, none⟩ B t) : Over w (some ⟨A, 0, none⟩) t.items := fun n Tb W hn hO hc => weights1_iter n Tb A hn B t W (h.only hO) hc

set_option maxRecDepth 100000 in
set_option maxHeartbeats 2000000 in
theorem pairs_in (a : Option Addr) (m : Nat) (L : Items) (w : World) (hB : Over w a L) (hlen : L.length ≤ 2147483647) :
    CallsIn Fence.wide 6 Try.prog 37 #[.pointer a, .int .i64 m] w fun e w' => (∃ v, e = .returned v ∧ w'.ownsRow w.heap.size 48 2 v (L.take m).length (cellsIt (L.take m))) ∧ Below w.heap.size w w' := by
  obtain ⟨i0, hi, hz0, hz1, hz2⟩ := info_parts infoPair
  obtain ⟨w1, hw1⟩ : ∃ w1, (((w.alloc (.cells #[.int .i64 m] 3)).alloc (.cells #[.slice none 0 0] 45)).alloc (.cells #[.pointer a] 24)) = w1 := ⟨_, rfl⟩
  have hsz : w1.heap.size = w.heap.size + 3 := by rw [← hw1]; simp [World.size_alloc]
  have hO1 : Only [] w w1 := hw1 ▸ (((Only.refl [] w).alloc _).alloc _).alloc _
  have hb1 : Below w.heap.size w w1 := ⟨hO1.os, hO1.tape, hO1.output, hO1.size, fun k hk => hO1.block k hk (by simp)⟩
  have k1 : w1.heap[w.heap.size]? = some (.cells #[.int .i64 m] 3 (0, 0)) := by
    rw [← hw1, heap_alloc_old _ _ (by simp only [World.size_alloc]; omega), heap_alloc_old _ _ (by simp only [World.size_alloc]; omega)]; exact heap_alloc_new _ _
  have k2 : w1.heap[w.heap.size + 1]? = some (.cells #[.slice none 0 0] 45 (0, 0)) := by
    rw [← hw1, heap_alloc_old _ _ (by simp only [World.size_alloc]; omega)]
    have := heap_alloc_new (w.alloc (.cells #[.int .i64 m] 3)) (.cells #[.slice none 0 0] 45)
    rwa [World.size_alloc] at this
  have k3 : w1.heap[w.heap.size + 2]? = some (.cells #[.pointer a] 24 (0, 0)) := by
    rw [← hw1]
    have := heap_alloc_new ((w.alloc (.cells #[.int .i64 m] 3)).alloc (.cells #[.slice none 0 0] 45)) (.cells #[.pointer a] 24)
    simpa [World.size_alloc] using this
  have HW := Lib.hid hw1
  have HB := Lib.hid (hB (6 - 1) (w.heap.size + 2) w1 (by omega) hO1 (cell_of_heap k3 rfl))
  have HK := Lib.hid (And.intro k1 k2)
  clear hB k1 k2 k3 hw1
  refine callsIn_of_wp_marks Try.func37 rfl trivial ?_ rfl
  simp only [Try.ntmps37, List.size_toArray, List.length_cons, List.length_nil, Nat.reduceAdd, Nat.reduceSub, Array.replicate_succ, Array.replicate_zero, List.push_toArray, List.append_toArray, List.nil_append, List.cons_append]
  gi_wp2_with fail
  refine ⟨trivial, (callsIn_wide.2 (Weights_any _ _)).mono ?_⟩
  rintro e w' ⟨rfl, rfl⟩
  gi_wp2
  rw [HW.out]
  refine range_iter (by omega) (gf := 141) (lb := #[.pointer (some ⟨w.heap.size + 1 + 1, 0, none⟩)]) (L := L) rfl (enters_of Try.func141 (by kernel_rfl) rfl) HB.out rfl
    (Gets w m) (Left w m) (gets_own w w1 m hO1.size) (fun c => left_own w w1 m c hO1.size) ?start ?fr ?assign ?body ?done ?stop
  case start => exact ⟨⟨⟨_, HK.out.2, World.ownsRow_nil _ _ _ _, trivial⟩, HK.out.1, Nat.zero_le _⟩, hb1⟩
  case assign =>
    intro l x W K hK
    gi_wp2
    exact hK
  case body =>
    rintro l pre x W ⟨⟨⟨v, hv, hrow, _⟩, hm, hle⟩, hBel⟩ hlt
    obtain ⟨A, c, rfl⟩ := row_slice hrow
    have c1 := hv.cell
    have c2 := hv.frozen
    have c3 := hm.cell
    by_cases hfull : pre.length = m
    · have q : ((pre.length : Int) == (m : Int)) = true := by simp [hfull]
      have HL := Lib.hid (show Left w m (.exit 0) (pre ++ [x]) W from ⟨⟨pre, _, ⟨rfl, ⟨[x], rfl⟩, hfull⟩, hv, hrow⟩, hBel⟩)
      clear hv hm hrow
      gi_wp2
      exact ⟨KeepsOthers.refl _, HL.out⟩
    · have q : ((pre.length : Int) == (m : Int)) = false := by simp; omega
      have hn0 := hBel.size
      gi_wp2_with (gi_at_builtin; refine wpListIn_append_own _ rfl (.tmp 22) (.tmp 26) 45 rfl w.heap.size 48 i0 (.agg #[.int .i64 0, .int .i64 0]) 2 16 Try.underlying45 hi hz0 hz1 hz2 rfl (by decide) _ _ _ rfl (hrow.alloc _) ⟨W.heap.size, 0, none⟩ 1 1 [.int .i64 x.1, .int .i64 x.2] rfl rfl (cell_two_new _ _ _ _) (by simp [Value.oneCell']) (by unfold maxLen; omega) (by omega) (by simp; omega) ?_; intro v' w3 hown' hg3 _; have hap := Lib.hid (hv.appended (by decide) hrow hn0 (by omega) hown' hg3); have hkt := Lib.hid (keepT_appended hv hrow hg3 (v' := v') ⟨by decide, by decide⟩ ⟨by decide, by decide⟩); have hkm := Lib.hid (kept_appended (B := w.heap.size + 1) (v' := v') hrow hg3 hm (by decide) (by omega)); have c3 := hap.out.1.cell; have c4 := hap.out.1.frozen; obtain ⟨g', cap', rfl⟩ := ownsRow_succ hown'; clear hown' hg3)
      refine ⟨hap.out.2.2.2.1, hkt.out, ⟨⟨_, hap.out.2.1, ?_, trivial⟩, hkm.out, by rw [List.length_append]; simp; omega⟩, hBel.trans hap.out.2.2.2.2⟩
      rw [List.length_append, List.length_singleton, cellsIt_append]
      exact hap.out.2.2.1
  case done =>
    rintro D W hD ⟨⟨⟨v, hv, hrow, _⟩, hm, hle⟩, hBel⟩ hK
    have c1 := hv.cell
    have hrow3 := ownsRow_putObj hrow (.deferred none) hK rfl
    have HR := Lib.hid hrow3
    have hDw : w.heap.size < D := by omega
    have HB2 := Lib.hid hBel
    have hle2 := Lib.hid hle
    obtain ⟨A, c, rfl⟩ := row_slice hrow
    clear hv hrow hrow3 hm hBel hle
    gi_wp2
    refine ⟨by simp, .inl ⟨_, _, rfl, run_takeDeferred hK, ?_⟩⟩
    refine ⟨_, results_tmp rfl _ _ _, ⟨_, rfl, ?_⟩, HB2.out.trans (belowK_b (w := w) (Nat.le_refl _) W D _ (.deferred none) (by omega) hK rfl rfl)⟩
    rw [List.take_of_length_le hle2.out]
    exact HR.out
  case stop =>
    rintro D c pre W hD hpre ⟨⟨q, v, ⟨rfl, hq, hqm⟩, hv, hrow⟩, hBel⟩ hK
    have c1 := hv.cell
    have hrow3 := ownsRow_putObj hrow (.deferred none) hK rfl
    have HR := Lib.hid hrow3
    have hDw : w.heap.size < D := by omega
    have HB2 := Lib.hid hBel
    have hT := Lib.hid (show L.take m = q by rw [← hqm]; exact (List.prefix_iff_eq_take.1 (hq.trans hpre)).symm)
    obtain ⟨A, c, rfl⟩ := row_slice hrow
    clear hv hrow hrow3 hBel hpre hq hqm
    gi_wp2
    refine ⟨by simp, .inl ⟨_, _, rfl, run_takeDeferred hK, ?_⟩⟩
    refine ⟨_, results_tmp rfl _ _ _, ⟨_, rfl, ?_⟩, HB2.out.trans (belowK_b (w := w) (Nat.le_refl _) W D _ (.deferred none) (by omega) hK rfl rfl)⟩
    rw [hT.out]
    exact HR.out

end Go.Proofs.Ytbafacdknaopjaa
