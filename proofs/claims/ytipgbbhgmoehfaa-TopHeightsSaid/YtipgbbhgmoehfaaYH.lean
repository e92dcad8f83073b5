import Derived.WalkKit
import Derived.OpenShut
import Derived.ChangeSlices
import Derived.SizedLaws
import Derived.Laws.Cover2
import Derived.Test.YtipgbbhgmoehfaaYG
import Derived.Test.YtipgbbhgmoehfaaYF
import Derived.Test.YtipgbbhgmoehfaaRows
import Derived.Test.YtipgbbhgmoehfaaYD
/-
  A new tally: build.
-/
namespace Go.Proofs.Ytipgbbhgmoehfaa
open Go.RowKit
set_option linter.unusedSimpArgs false
set_option linter.unusedSectionVars false

theorem mk_ints64 (n : Nat) (hn : n ≤ 2147483647) (w : World) : (Instr.makeSlice 48 (.int .i64 (n : Int)) (.int .i64 (n : Int))).run Try.prog w = .ok (.slice (some ⟨w.heap.size, 0, none⟩) n n) (w.alloc (.cells (madeCells #[.int .i64 0] n) 2)) :=
  run_make_row' 48 2 (.int .i64 0) 8 Try.underlying48 infoInt64 rfl .i64 .i64 n (by omega) (by omega) w
theorem made_row64 {w : World} {g n : Nat} (h : w.heap[g]? = some (.cells (madeCells #[.int .i64 0] n) 2 (0, 0))) : Row64 w g n (fun _ => 0) := by
  obtain ⟨c, hc, r⟩ := World.rowIs_made w (.int .i64 0) n 2
  rw [heap_alloc_new] at hc
  cases hc
  exact ⟨_, h, r.2⟩
theorem sumOf_id {n : Nat} {wt : Nat → Nat} {a : Nat} (ha : a < n) : sumOf n id wt a = wt a := by
  unfold sumOf
  rw [← total_at ha (wt a)]
  exact total_congr fun b _ => by
    by_cases e : b = a
    · subst e; simp
    · rw [if_neg e, if_neg (show ¬ id b = a from e)]
theorem setsL_id (n : Nat) (wt : Nat → Nat) : setsL n id wt = (List.range n).map fun a => (wt a : Int) := by
  unfold setsL
  rw [List.filter_eq_self.2 (fun a _ => by simp)]
  refine List.map_congr_left fun a ha => ?_
  rw [sumOf_id (List.mem_range.1 ha)]

/-- A tally under way: k of its weights are there. -/
structure Part (w : World) (A G S B : Nat) (Fd : List Nat) (t : T) (n k : Nat) (wt : Nat → Nat) (W : World) : Prop where
  head : W.heap[A]? = some (.cells #[.pointer (some ⟨A, 0, none⟩), .pointer (some ⟨S, 0, none⟩), .slice (some ⟨G, 0, none⟩) n n, .pointer (some ⟨B, 0, none⟩)] 152 (0, 0))
  row : Row64 W G n (fun i => if i < k then wt i else 0)
  sets : DsuAt W Fd S n id
  bag : Bag W B t
  nd : (A :: G :: (Fd ++ B :: t.blocks)).Nodup
  new : ∀ j, j ∈ A :: G :: (Fd ++ B :: t.blocks) → w.heap.size ≤ j
  only : Only [] w W
  items : t.items = bagOf ((List.range k).map fun a => (wt a : Int))
section
variable {w : World} {A G S B : Nat} {Fd : List Nat} {t : T} {n k : Nat} {wt : Nat → Nat} {W : World} (h : Part w A G S B Fd t n k wt W)
include h
theorem Part.keep {W' : World} (o : Only [] W W') : Part w A G S B Fd t n k wt W' :=
  ⟨(o.block A (heap_lt h.head) (by simp)).trans h.head, h.row.only o (by simp), h.sets.only o (by simp), h.bag.only o (by simp), h.nd, h.new, h.only.trans o, h.items⟩
theorem Part.parts : A ≠ G ∧ A ∉ Fd ∧ G ∉ Fd ∧ A ∉ B :: t.blocks ∧ G ∉ B :: t.blocks ∧ ∀ k, k ∈ Fd → k ∉ B :: t.blocks := by
  have h1 := List.nodup_cons.1 h.nd
  have h2 := List.nodup_cons.1 h1.2
  have h3 := List.nodup_append.1 h2.2
  refine ⟨fun e => h1.1 (by simp [e]), fun m => h1.1 (List.mem_cons_of_mem _ (List.mem_append_left _ m)), fun m => h2.1 (List.mem_append_left _ m), fun m => h1.1 (List.mem_cons_of_mem _ (List.mem_append_right _ m)), fun m => h2.1 (List.mem_append_right _ m), fun k m m' => h3.2.2 k m k m' rfl⟩
theorem Part.c : W.cell? ⟨A, 1, none⟩ = some (.pointer (some ⟨S, 0, none⟩)) ∧ W.cell? ⟨A, 2, none⟩ = some (.slice (some ⟨G, 0, none⟩) n n) ∧ W.cell? ⟨A, 3, none⟩ = some (.pointer (some ⟨B, 0, none⟩)) := ⟨cell_of_heap h.head rfl, cell_of_heap h.head rfl, cell_of_heap h.head rfl⟩
/-- A weight is stored, and added to the bag. -/
theorem Part.step {W2 W3 : World} {t' : T} (h2 : W2 = (W.setCell ⟨G, k, none⟩ (.int .i64 (wt k : Int))).drew) (hb : Became (W2.drewN 1) W3 B t t' (lput (wt k) (lcnt (wt k) t.items + 1) t.items)) : Part w A G S B Fd t' n (k + 1) wt W3 := by
  obtain ⟨pAG, pAF, pGF, pA, pG, pF⟩ := h.parts
  have o1 : Only [G] W W2 := h2 ▸ ((Only.refl [G] W).setCell (g := G) (by simp) _).drewN 1
  have o2 : Only (B :: t.blocks) W2 W3 := ((Only.refl _ W2).drewN 1).trans hb.only
  have hA := heap_lt h.head
  have hG := h.row.lt
  have s1 : W.heap.size ≤ W2.heap.size := o1.size
  have keep : ∀ j, j < W.heap.size → j ∉ B :: t.blocks → j ≠ G → W3.heap[j]? = W.heap[j]? := fun j hj hn hg => by
    rw [o2.block j (by omega) hn, o1.block j hj (by simpa using hg)]
  have fr : ∀ j, j ∈ t'.blocks → j ∈ t.blocks ∨ W.heap.size ≤ j := fun j hj => (hb.fresh j hj).imp id fun h => Nat.le_trans s1 h
  have out : ∀ j, j < W.heap.size → j ∉ B :: t.blocks → j ∉ B :: t'.blocks := fun j hj hn hm => by
    rcases List.mem_cons.1 hm with rfl | hm
    · exact hn List.mem_cons_self
    · rcases fr j hm with hm | hm
      · exact hn (List.mem_cons_of_mem _ hm)
      · omega
  have hFd : ∀ j, j ∈ Fd → j < W.heap.size := h.sets.lt
  refine ⟨(keep A hA pA pAG).trans h.head, ?_, h.sets.same fun j hj => keep j (hFd j hj) (pF j hj) (fun e => pGF (e ▸ hj)), hb.bag, ?_, fun j hj => ?_, ?_, ?_⟩
  · have r := (h.row.put k (wt k)).same (w' := W2) (by rw [h2]; rfl)
    refine (r.only o2 pG).congr fun i hi => ?_
    simp only [put]
    split
    · rename_i e; rw [if_pos (by omega), e]
    · split
      · rw [if_pos (by omega)]
      · rw [if_neg (by omega)]
  · have n4 := (List.nodup_append.1 (List.nodup_cons.1 (List.nodup_cons.1 h.nd).2).2).1
    refine List.nodup_cons.2 ⟨fun m => ?_, List.nodup_cons.2 ⟨fun m => ?_, List.nodup_append.2 ⟨n4, hb.bag.nd, fun a ha b hb e => out a (hFd a ha) (pF a ha) (e ▸ hb)⟩⟩⟩
    · rcases List.mem_cons.1 m with e | m
      · exact pAG e
      · rcases List.mem_append.1 m with m | m
        · exact pAF m
        · exact out A hA pA m
    · rcases List.mem_append.1 m with m | m
      · exact pGF m
      · exact out G hG pG m
  · have hw := h.only.size
    by_cases hl : j < W.heap.size
    · refine h.new j ?_
      simp only [List.mem_cons, List.mem_append] at hj ⊢
      rcases hj with hj | hj | hj | hj | hj
      · exact .inl hj
      · exact .inr (.inl hj)
      · exact .inr (.inr (.inl hj))
      · exact .inr (.inr (.inr (.inl hj)))
      · rcases fr j hj with hj | hj
        · exact .inr (.inr (.inr (.inr hj)))
        · omega
    · omega
  · refine (h.only.to o1 fun i hi hlt => ?_).to o2 fun i hi hlt => ?_
    · have := h.new G (by simp); simp at hi; omega
    · have := h.new i (List.mem_cons_of_mem _ (List.mem_cons_of_mem _ (List.mem_append_right _ hi))); omega
  · rw [hb.items, h.items, List.range_succ, List.map_append]
    simp only [List.map_cons, List.map_nil]
    rw [bagOf_snoc]
    rfl
theorem Part.done (hk : k = n) (hs : total n wt ≤ 3037000499) : TalAt W (A :: G :: (Fd ++ B :: t.blocks)) A n id wt := by
  subst hk
  exact ⟨G, S, B, Fd, t, _, k, rfl, h.head, h.row, h.sets, h.bag, h.nd, fun x hx _ => by rw [if_pos hx, sumOf_id hx], by rw [h.items, setsL_id], hs⟩
theorem Part.sz : t.sz = k := by rw [T.sz_items, h.items, bagOf_sz]; simp
end

/-- Behind the box of a new tally. -/
def Blank (w : World) (S : Nat) (Fd : List Nat) (n : Nat) (s : Value) (wc : World) : Prop := ∃ A G B : Nat, s = .pointer (some ⟨A, 0, none⟩) ∧ wc.heap[A]? = some (.cells #[.pointer none, .pointer (some ⟨S, 0, none⟩), .slice (some ⟨G, 0, none⟩) n n, .pointer (some ⟨B, 0, none⟩)] 152 (0, 0)) ∧
  Row64 wc G n (fun _ => 0) ∧ DsuAt wc Fd S n id ∧ Bag wc B .leaf ∧ (A :: G :: (Fd ++ [B])).Nodup ∧ (∀ j, j ∈ A :: G :: (Fd ++ [B]) → w.heap.size ≤ j) ∧ Only [] w wc
theorem Blank.part {w wc : World} {S n A G B : Nat} {Fd : List Nat} {wt : Nat → Nat} (hh : wc.heap[A]? = some (.cells #[.pointer none, .pointer (some ⟨S, 0, none⟩), .slice (some ⟨G, 0, none⟩) n n, .pointer (some ⟨B, 0, none⟩)] 152 (0, 0))) (hr : Row64 wc G n (fun _ => 0)) (hd : DsuAt wc Fd S n id) (hb : Bag wc B .leaf)
    (hn : (A :: G :: (Fd ++ [B])).Nodup) (hw : ∀ j, j ∈ A :: G :: (Fd ++ [B]) → w.heap.size ≤ j) (ho : Only [] w wc) : Part w A G S B Fd .leaf n 0 wt (wc.setCell ⟨A, 0, none⟩ (.pointer (some ⟨A, 0, none⟩))) := by
  have o : Only [A] wc (wc.setCell ⟨A, 0, none⟩ (.pointer (some ⟨A, 0, none⟩))) := (Only.refl [A] wc).setCell (by simp) _
  have h1 := List.nodup_cons.1 hn
  have hA := hw A (by simp)
  refine ⟨heap_setCell_same wc A 0 _ 152 _ hh, (hr.only o fun m => h1.1 (by simp at m; simp [m])).congr fun i _ => by simp, hd.only o fun j hj m => h1.1 (by simp at m; subst m; simp [hj]), hb.only o fun j hj m => h1.1 (by simp at m; subst m; simp [T.blocks] at hj; simp [hj]), by simpa [T.blocks] using hn, by simpa [T.blocks] using hw, ho.to o fun i hi hlt => by simp at hi; omega, rfl⟩
theorem blank_of {w w1 w2 : World} {S n B : Nat} {Fd : List Nat} (hd : DsuAt w1 Fd S n id) (hF : ∀ k, k ∈ Fd → w.heap.size ≤ k) (ho : Only [] w w1) {G : Nat} (o2 : Only [] w1 w2) (hr : Row64 w2 G n (fun _ => 0)) (hb : Bag w2 B .leaf) (hG : w1.heap.size ≤ G) (hB : w1.heap.size ≤ B) (hGB : G ≠ B) :
    Blank w S Fd n (.pointer (some ⟨w2.heap.size, 0, none⟩)) (w2.alloc (.cells #[.pointer none, .pointer (some ⟨S, 0, none⟩), .slice (some ⟨G, 0, none⟩) n n, .pointer (some ⟨B, 0, none⟩)] 152)) := by
  have o3 : Only [] w2 (w2.alloc (.cells #[.pointer none, .pointer (some ⟨S, 0, none⟩), .slice (some ⟨G, 0, none⟩) n n, .pointer (some ⟨B, 0, none⟩)] 152)) := (Only.refl [] w2).alloc _
  have l1 := hd.lt
  have l2 := hr.lt
  have l3 := hb.lt B (by simp)
  have s1 := ho.size
  have s2 := o2.size
  refine ⟨w2.heap.size, G, B, rfl, heap_alloc_new w2 _, hr.only o3 (by simp), (hd.only o2 (by simp)).only o3 (by simp), hb.only o3 (by simp), ?_, fun j hj => ?_, (ho.trans o2).trans o3⟩
  · refine List.nodup_cons.2 ⟨fun m => ?_, List.nodup_cons.2 ⟨fun m => ?_, List.nodup_append.2 ⟨hd.nodup, by simp, fun a ha b hb e => ?_⟩⟩⟩
    · rcases List.mem_cons.1 m with e | m
      · omega
      · rcases List.mem_append.1 m with m | m
        · have := l1 _ m; omega
        · simp at m; omega
    · rcases List.mem_append.1 m with m | m
      · have := l1 _ m; omega
      · simp at m; omega
    · simp at hb; have := l1 _ ha; omega
  · rcases List.mem_cons.1 hj with rfl | hj
    · omega
    · rcases List.mem_cons.1 hj with rfl | hj
      · omega
      · rcases List.mem_append.1 hj with hj | hj
        · exact hF j hj
        · simp at hj; omega

set_option maxRecDepth 100000 in
set_option maxHeartbeats 4000000 in
theorem build_ok (n K : Nat) (env : Array Value) (wt : Nat → Nat) (w : World) (hn : n ≤ 65536) (hK : Goes K) (hs : total n wt ≤ 3037000499)
    (hC : ∀ k, k < n → ∀ W, Only [] w W → Calls Try.prog K (#[.int .i64 k] ++ env) W fun e w' => e = .returned (.int .i64 (wt k)) ∧ w' = W) :
    Calls Try.prog 55 #[.int .i64 n, .func (.func K) #[] env] w fun e w' => ∃ F A, e = .returned (.tuple #[.pointer (some ⟨A, 0, none⟩), .int .i64 0]) ∧ TalAt w' F A n id wt ∧ (∀ k, k ∈ F → w.heap.size ≤ k) ∧ Only [] w w' := by
  have hmk := fun W => mk_ints64 n (by omega) W
  have CC := Lib.hid hC
  have HS := Lib.hid hs
  unfold Goes at hK
  clear hC hs
  go_enter Try.func55, Try.ntmps55
  go_wp2_with fail
  refine (DNew n hn w).mono ?_
  rintro e w1 ⟨Fd, S, rfl, hd, hF, hO⟩
  have HD := Lib.hid (And.intro hd (And.intro hF hO))
  clear hd hF hO
  go_upto_region 5 with (fail)
  go_cut [8] from 9 (fun s wc => Blank w S Fd n s wc)
  case first =>
    go_region_with (go_at_call 80; refine (New_any _).mono ?_; rintro e w2 ⟨rfl, hb, ho⟩; have HN := Lib.hid (And.intro hb ho); clear hb ho)
    all_goals go_wp2
    all_goals go_meet
    all_goals
      obtain ⟨hd, hF, hO⟩ := HD.out
      obtain ⟨hb, ho⟩ := HN.out
    · refine blank_of hd hF hO ((((Only.refl [] w1).alloc _).drewN 1).trans ho) ?_ (by simpa using hb) (Nat.le_refl _) (by omega) (by omega)
      exact (made_row64 (w := (w1.alloc (.cells (madeCells #[.int .i64 0] n) 2)).drew) (heap_alloc_new w1 _)).only ho (by simp)
    · have := blank_of (w2 := w2.alloc (.cells (madeCells #[.int .i64 0] n) 2)) hd hF hO ((((Only.refl [] w1).drewN 1).trans ho).alloc _) (made_row64 (heap_alloc_new w2 _)) (hb.alloc _) ho.size (Nat.le_refl _) (by have := hb.lt _ List.mem_cons_self; exact Nat.ne_of_gt this)
      rw [World.size_alloc] at this
      exact this
  case rest =>
    obtain ⟨A, G, B, rfl, hh, hr, hd, hb, hnd, hw, ho⟩ := hcut
    have c0 := cell_of_heap (i := 0) hh rfl
    have z0 := frozen_of_heap (i := 0) hh
    have H0 := Lib.hid (Blank.part (wt := wt) hh hr hd hb hnd hw ho)
    clear hh hr hd hb hnd hw ho
    go_wp2
    go_loopw [30] (fun i wr => ∃ (k : Nat) (t : T), k ≤ n ∧ i = .int .i64 k ∧ Hid (Part w A G S B Fd t n k wt wr)) (fun i _ => n - (intOf i).toNat)
    case atStart => exact ⟨0, .leaf, Nat.zero_le _, rfl, H0⟩
    case round =>
      obtain ⟨k, t, hk, rfl, hf⟩ := hrel
      by_cases hlt : k < n
      · obtain ⟨d1, d2, d3⟩ := hf.out.c
        have d4 := hf.out.row.cell hlt
        have z1 := hf.out.row.frozen k
        rw [if_neg (Nat.lt_irrefl k)] at d4
        have CK := Lib.hid (CC.out k hlt wr.drew (hf.out.only.drewN 1))
        go_wp2_with fail
        go_still_tail 9, (by kernel_rfl)
        still_call (CK.out)
        repeat still_step
        refine wpStill_nil ?_
        change wpList _ _ _ _ _ wr.drew
        go_wp2_with fail
        obtain ⟨W2, hW2⟩ : ∃ W2, ((wr.setCell ⟨G, k, none⟩ (.int .i64 (wt k : Int))).drew) = W2 := ⟨_, rfl⟩
        obtain ⟨pAG, pAF, pGF, pA, pG, pF⟩ := hf.out.parts
        have oG := (Only.refl [G] wr).setCell (g := G) (i := k) (by simp) (.int .i64 (wt k : Int))
        have n2 : W2.cell? ⟨A, 2, none⟩ = some (.slice (some ⟨G, 0, none⟩) n n) := by rw [← hW2]; exact cells_keep oG d2 (by simpa using pAG)
        have n3 : W2.cell? ⟨A, 3, none⟩ = some (.pointer (some ⟨B, 0, none⟩)) := by rw [← hW2]; exact cells_keep oG d3 (by simpa using pAG)
        have nk : W2.cell? ⟨G, k, none⟩ = some (.int .i64 (wt k : Int)) := by rw [← hW2]; exact World.cell?_setCell_same _ _ _ d4
        have HB := Lib.hid (show Bag W2 B t by rw [← hW2]; exact (hf.out.bag.only oG fun j hj m => pG (by simp at m; rw [← m]; exact hj)).drewN 1)
        have HW := Lib.hid hW2.symm
        have HZ := Lib.hid (show t.sz + 1 ≤ 2147483647 by rw [hf.out.sz]; omega)
        rw [hW2]
        clear d1 d2 d3 d4 z1 oG pAG pAF pGF pA pG pF hW2 CK
        go_wp2_with fail
        go_still_tail 11, (by kernel_rfl)
        go_wp2_with fail
        refine (Add_ok B t (wt k) 1 (W2.drewN 1) (HB.out.drewN 1) HZ.out).mono ?_
        rintro e W3 ⟨rfl, t', hb⟩
        have HN := Lib.hid (hf.out.step HW.out hb)
        clear hb hf HB
        go_wp2_with fail
        go_roundw
        case rel => exact ⟨k + 1, t', by omega, by go_num, HN⟩
        case measure => simp [intOf]; omega
      · obtain rfl : k = n := by omega
        go_wp2_with fail
        go_ret2
        exact ⟨_, A, rfl, hf.out.done rfl HS.out, hf.out.new, hf.out.only⟩

end Go.Proofs.Ytipgbbhgmoehfaa

/-
  How an argument that is a slice of numbers reads: as a list of words, each within its kind, all of them in memory.
-/
namespace Go.Proofs.Ytipgbbhgmoehfaa
open Go.ChangeShapes Go.WideShapes Go.RowKit

section
variable {H : Type} {enc : TypeId × Value → H} {P : Program} {W : World} {spare : Nat → Bool} {held : Bool}

theorem cell_lt2 {w : World} {a : Addr} {v : Value} (h : w.cell? a = some v) : a.spot = none ∧ a.block < w.heap.size := by
  unfold World.cell? at h
  split at h
  · rename_i c _ _ heq
    split at h
    · cases h
    · rename_i hs
      refine ⟨by simpa using hs, ?_⟩
      exact (Array.getElem?_eq_some_iff.1 heq).1
  · cases h

/-- A slice whose elements take one cell each: what lies at its places. -/
theorem cells_in {t e : TypeId} {A : Option Addr} {len cap : Nat} {d : DataW H} {ps : List MemPlace} (ht : P.underlying t = some (.slice e)) (hc : P.cellsOf e = 1)
    (good : Value → Prop) (hgood : ∀ fuel cs x, DataW.trod enc P W 0 spare held fuel e cs = some x → ∃ v, cs = [v] ∧ good v)
    (h : DataW.Trod enc P W 0 spare held t (.slice A len cap) d ps) :
    len ≤ maxLen ∧ (len = 0 ∨ ∃ el sp, d = .slice el sp ∧ el.length = len) ∧
      (0 < len → ∃ b off, A = some ⟨b, off, none⟩ ∧ b < W.heap.size ∧ ∀ j, j < len → ∃ v, W.cell? ⟨b, off + j, none⟩ = some v ∧ good v) := by
  obtain ⟨fuel, hf⟩ := h
  rcases DataW.trod_slice ht hf with ⟨h0, _⟩ | ⟨a, len', cap', elems, rest, n, _, h1, h2, _, hl, hm, hlen, hel, _, _⟩
  · simp only [Value.cells] at h0
    obtain ⟨rfl, rfl, rfl⟩ : A = none ∧ len = 0 ∧ cap = 0 := by simpa using h0
    exact ⟨by unfold maxLen; omega, Or.inl rfl, fun h => by omega⟩
  · simp only [Value.cells] at h1
    obtain ⟨rfl, rfl, rfl⟩ : A = some a ∧ len = len' ∧ cap = cap' := by simpa using h1
    have h2' : d = .slice (elems.map (·.1)) (rest.map (·.1)) := congrArg Prod.fst h2
    refine ⟨by omega, Or.inr ⟨_, _, h2', by simp [hlen]⟩, fun h0 => ?_⟩
    have each : ∀ j, j < len → ∃ v, W.cell? (a.add j) = some v ∧ good v := by
      intro j hj
      have h3 := hel j hj
      rw [hc, Nat.mul_one, List.getElem?_eq_getElem (by omega), Option.bind_eq_some_iff] at h3
      obtain ⟨cs, hcs, hx⟩ := h3
      obtain ⟨v, rfl, hg⟩ := hgood _ _ _ hx
      exact ⟨v, cell_of_cells?_one hcs, hg⟩
    obtain ⟨v0, hv0, _⟩ := each 0 h0
    obtain ⟨hs, hb⟩ := cell_lt2 hv0
    obtain ⟨b, off, sp⟩ := a
    simp only [Addr.add] at hs hb
    have hs' : sp = none := by simpa using hs
    subst hs'
    refine ⟨b, off, rfl, by simpa using hb, fun j hj => ?_⟩
    obtain ⟨v, hv, hg⟩ := each j hj
    refine ⟨v, ?_, hg⟩
    rw [← hv]
    unfold Addr.add
    split
    · rename_i h; subst h; rfl
    · rfl

theorem slice_nil {t e : TypeId} {len cap : Nat} {d : DataW H} {ps : List MemPlace} (ht : P.underlying t = some (.slice e)) (h : DataW.Trod enc P W 0 spare held t (.slice none len cap) d ps) : cap = 0 := by
  obtain ⟨fuel, hf⟩ := h
  rcases DataW.trod_slice ht hf with ⟨h0, _⟩ | ⟨a, len', cap', elems, rest, n, _, h1, _⟩
  · simp only [Value.cells] at h0
    have h0' : len = 0 ∧ cap = 0 := by simpa using h0
    exact h0'.2
  · simp only [Value.cells] at h1
    simp at h1

/-- A list of whole numbers of one kind, as it lies in memory. -/
structure IntsIn (w : World) (k : IntKind) (A : Option Addr) (n : Nat) (f : Nat → Int) : Prop where
  row : 0 < n → ∃ b off, A = some ⟨b, off, none⟩ ∧ b < w.heap.size ∧ ∀ j, j < n → w.cell? ⟨b, off + j, none⟩ = some (.int k (f j))
  wf : ∀ j, j < n → (Lit.int k (f j)).wf = true
  len : n ≤ maxLen

theorem ints_in (k : IntKind) {t e : TypeId} {A : Option Addr} {len cap : Nat} {d : DataW H} {ps : List MemPlace} (ht : P.underlying t = some (.slice e)) (he : P.underlying e = some (.int k)) (hc : P.cellsOf e = 1)
    (h : DataW.Trod enc P W 0 spare held t (.slice A len cap) d ps) :
    ∃ f, IntsIn W k A len f ∧ (len = 0 ∨ ∃ el sp, d = .slice el sp ∧ el.length = len) := by
  obtain ⟨h1, h2, h3⟩ := cells_in ht hc (fun v => ∃ b, v = .int k b ∧ (Lit.int k b).wf = true) (fun fuel cs x hx => by
    obtain ⟨b, rfl, _, hw⟩ := DataW.trod_int he hx
    exact ⟨_, rfl, b, rfl, hw⟩) h
  by_cases h0 : 0 < len
  · obtain ⟨b, off, rfl, hb, hcell⟩ := h3 h0
    refine ⟨fun j => match W.cell? ⟨b, off + j, none⟩ with | some (.int _ x) => x | _ => 0, ⟨fun _ => ⟨b, off, rfl, hb, fun j hj => ?_⟩, fun j hj => ?_, h1⟩, h2⟩
    · obtain ⟨v, hv, x, rfl, hx⟩ := hcell j hj
      simp only [hv]
    · obtain ⟨v, hv, x, rfl, hx⟩ := hcell j hj
      simp only [hv]
      exact hx
  · exact ⟨fun _ => 0, ⟨fun h => absurd h h0, fun j hj => by omega, h1⟩, h2⟩
end

end Go.Proofs.Ytipgbbhgmoehfaa

/-
  A new tally: New, Even.
-/
namespace Go.Proofs.Ytipgbbhgmoehfaa
open Go.RowKit
set_option linter.unusedSimpArgs false
set_option linter.unusedSectionVars false

theorem IntsIn.cell {w : World} {k : IntKind} {A : Option Addr} {n : Nat} {f : Nat → Int} (h : IntsIn w k A n f) {j : Nat} (hj : j < n) : ∃ b off, A = some ⟨b, off, none⟩ ∧ w.cell? ⟨b, off + j, none⟩ = some (.int k (f j)) := by
  obtain ⟨b, off, hA, _, hc⟩ := h.row (by omega)
  exact ⟨b, off, hA, hc j hj⟩
theorem IntsIn.only {w w' : World} {k : IntKind} {A : Option Addr} {n : Nat} {f : Nat → Int} (h : IntsIn w k A n f) (hO : Only [] w w') : IntsIn w' k A n f :=
  ⟨fun hn => by
    obtain ⟨b, off, hA, hb, hc⟩ := h.row hn
    exact ⟨b, off, hA, Nat.lt_of_lt_of_le hb hO.size, fun j hj => (World.cell?_of_block (w := w) (hO.block b hb (by simp))).trans (hc j hj)⟩, h.wf, h.len⟩
theorem wf_i64 {n : Int} (h : (Lit.int .i64 n).wf = true) : -9223372036854775808 ≤ n ∧ n ≤ 9223372036854775807 := by simpa [Lit.wf, IntKind.min, IntKind.max, IntKind.bits, IntKind.signed] using h

set_option maxRecDepth 100000 in
theorem build_bad (n : Int) (v : Value) (w : World) (hn : n < 0 ∨ 65536 < n) : Calls Try.prog 55 #[.int .i64 n, v] w fun e w' => e = .returned (.tuple #[.pointer none, .int .i64 2]) ∧ w = w' := by
  have CN := Lib.hid (DNew_bad n hn w)
  clear hn
  go_enter Try.func55, Try.ntmps55
  go_wp2_with fail
  refine CN.out.mono ?_
  rintro e w' ⟨rfl, rfl⟩
  go_wp2_with fail
  go_ret2
  exact ⟨rfl, rfl⟩

set_option maxRecDepth 100000 in
theorem even1_any (k : Int) (W : World) : Calls Try.prog 56 #[.int .i64 k] W fun e w' => e = .returned (.int .i64 1) ∧ w' = W := by
  go_enter Try.func56, Try.ntmps56
  go_wp2
  go_ret
  exact ⟨rfl, rfl⟩
theorem total_ones (n : Nat) : total n (fun _ => 1) = n := by
  induction n with
  | zero => rfl
  | succ n ih => simp only [total, ih]
set_option maxRecDepth 100000 in
theorem TEven (n : Nat) (hn : n ≤ 65536) (w : World) : Calls Try.prog 25 #[.int .i64 n] w fun e w' => ∃ F A, e = .returned (.tuple #[.pointer (some ⟨A, 0, none⟩), .int .i64 0]) ∧ TalAt w' F A n id (fun _ => 1) ∧ (∀ k, k ∈ F → w.heap.size ≤ k) ∧ Only [] w w' := by
  have CB := Lib.hid (build_ok n 56 #[] (fun _ => 1) w hn (fun _ _ => by kernel_rfl) (by rw [total_ones]; omega) (fun k _ W _ => even1_any k W))
  go_enter Try.func25, Try.ntmps25
  go_wp2_with fail
  refine CB.out.mono ?_
  rintro e w1 ⟨F, A, rfl, ht, hF, hO⟩
  have H := Lib.hid (And.intro ht (And.intro hF hO))
  clear ht hF hO
  go_wp2_with fail
  go_ret2
  exact ⟨F, A, rfl, H.out⟩
set_option maxRecDepth 100000 in
theorem TEven_bad (n : Int) (hn : n < 0 ∨ 65536 < n) (w : World) : Calls Try.prog 25 #[.int .i64 n] w fun e w' => e = .returned (.tuple #[.pointer none, .int .i64 2]) ∧ w = w' := by
  have CB := Lib.hid (fun v => build_bad n v w hn)
  clear hn
  go_enter Try.func25, Try.ntmps25
  go_wp2_with fail
  refine (CB.out _).mono ?_
  rintro e w' ⟨rfl, rfl⟩
  go_wp2_with fail
  go_ret2
  exact ⟨rfl, rfl⟩

/-- The weights of New are within what it allows. -/
def Fit (f : Nat → Int) (k : Nat) : Prop := ∀ j, j < k → 0 ≤ f j ∧ f j ≤ 1099511627776
instance (f : Nat → Int) (k : Nat) : Decidable (Fit f k) := inferInstanceAs (Decidable (∀ j, j < k → 0 ≤ f j ∧ f j ≤ 1099511627776))
def wtOf (f : Nat → Int) : Nat → Nat := fun j => (f j).toNat
/-- The error of New. -/
def newCode (n : Nat) (f : Nat → Int) : Int := if n ≤ 65536 ∧ Fit f n then (if total n (wtOf f) ≤ 3037000499 then 0 else 7) else 2
theorem newCode_long {n : Nat} {f : Nat → Int} (h : 65536 < n) : newCode n f = 2 := if_neg fun e => by omega
theorem newCode_bad {n k : Nat} {f : Nat → Int} (hk : k < n) (h : f k < 0 ∨ 1099511627776 < f k) : newCode n f = 2 := if_neg fun e => by have := e.2 k hk; omega
theorem newCode_over {n : Nat} {f : Nat → Int} (hn : n ≤ 65536) (h : Fit f n) (ht : 3037000499 < total n (wtOf f)) : newCode n f = 7 := by unfold newCode; rw [if_pos ⟨hn, h⟩, if_neg (by omega)]
theorem newCode_ok {n : Nat} {f : Nat → Int} (hn : n ≤ 65536) (h : Fit f n) (ht : total n (wtOf f) ≤ 3037000499) : newCode n f = 0 := by unfold newCode; rw [if_pos ⟨hn, h⟩, if_pos ht]
/-- How New ends. -/
def NewPost (n : Nat) (f : Nat → Int) (w : World) (e : Ending) (w' : World) : Prop := (newCode n f ≠ 0 ∧ e = .returned (.tuple #[.pointer none, .int .i64 (newCode n f)]) ∧ Only [] w w') ∨
  (newCode n f = 0 ∧ ∃ F A, e = .returned (.tuple #[.pointer (some ⟨A, 0, none⟩), .int .i64 0]) ∧ TalAt w' F A n id (wtOf f) ∧ (∀ k, k ∈ F → w.heap.size ≤ k) ∧ Only [] w w')
theorem NewPost.err {n : Nat} {f : Nat → Int} {w w' : World} {c : Int} (hc : newCode n f = c) (h0 : c ≠ 0) (o : Only [] w w') : NewPost n f w (.returned (.tuple #[.pointer none, .int .i64 c])) w' := by
  subst hc; exact .inl ⟨h0, rfl, o⟩
theorem total_wt {n : Nat} {f : Nat → Int} (h : Fit f n) : total n (wtOf f) ≤ n * 1099511627776 := by
  induction n with
  | zero => exact Nat.le_refl _
  | succ n ih =>
    have := ih fun j hj => h j (by omega)
    have := h n (by omega)
    unfold wtOf at *
    simp only [total]
    omega
theorem sq_over {s : Nat} (h0 : 0 < s) : decide ((s : Int) > 9223372036854775807 / (s : Int)) = decide (3037000499 < s) := by
  rw [decide_eq_decide]
  have e : (9223372036854775807 : Int) / (s : Int) = ((9223372036854775807 / s : Nat) : Int) := rfl
  rw [e]
  by_cases h : 3037000499 < s
  · have h1 : 9223372036854775807 / s < s := (Nat.div_lt_iff_lt_mul h0).2 (Nat.lt_of_lt_of_le (by decide) (Nat.mul_le_mul h h))
    omega
  · have h1 : s ≤ 9223372036854775807 / s := (Nat.le_div_iff_mul_le h0).2 (Nat.le_trans (Nat.mul_le_mul (show s ≤ 3037000499 by omega) (show s ≤ 3037000499 by omega)) (by decide))
    omega

end Go.Proofs.Ytipgbbhgmoehfaa

/-
  The iterator over the weights of a tally.
-/
namespace Go.Proofs.Ytipgbbhgmoehfaa
open Go.RowKit Go.Shelf
attribute [local go_sem] Oper.semAt_some
set_option linter.unusedSimpArgs false

/-- What the parts of a tally give its iterator, from here on. -/
structure WeighOf (W : World) (a : Addr) (B : Option Addr) (t : T) : Prop where
  here : W.cell? ⟨a.block, 3, none⟩ = some (.pointer B)
  tree : TreeOf W B t
  valid : ∀ W1, Only [] W W1 → Calls Try.prog 82 #[.pointer (some a)] W1 fun e w' => e = .returned (.bool true) ∧ W1 = w'
theorem WeighOf.only {W W1 : World} {a : Addr} {B : Option Addr} {t : T} (h : WeighOf W a B t) (ho : Only [] W W1) : WeighOf W1 a B t :=
  ⟨cells_keep ho h.here (by simp), h.tree.only ho, fun W2 h2 => h.valid W2 (ho.trans h2)⟩
theorem Tal.weigh {W : World} {A G S B : Nat} {Fd : List Nat} {t : T} {f : Nat → Nat} {cg n : Nat} {lab wt : Nat → Nat} (h : Tal W A G S B Fd t f cg n lab wt) : WeighOf W ⟨A, 0, none⟩ (some ⟨B, 0, none⟩) t :=
  ⟨h.c.2.2, h.bag.treeOf, fun _ ho => tvalid_any (h.same fun k hk => ho.block k (h.lt k hk) (by simp))⟩

end Go.Proofs.Ytipgbbhgmoehfaa

/-
  The weights of a tally, collected.
-/
namespace Go.Proofs.Ytipgbbhgmoehfaa
open Go.RowKit Go.Shelf
attribute [local go_sem] Oper.semAt_some
set_option linter.unusedSimpArgs false

def cellsIt : Items → List Value
  | [] => []
  | p :: l => .int .i64 p.1 :: .int .i64 p.2 :: cellsIt l
theorem cellsIt_append (a b : Items) : cellsIt (a ++ b) = cellsIt a ++ cellsIt b := by
  induction a with
  | nil => rfl
  | cons p a ih => simp only [List.cons_append, cellsIt, ih]
theorem keepT_b {w : World} (W : World) (l : Nat) (o o' : Obj) (_ : w.heap.size ≤ l) (h : W.heap[l]? = some o) (hc : o.isCells = false) (_ : o.isWalk = false) : KeepT W (W.putObj l o') := by
  intro k cs t _ hk
  have hne : k ≠ l := by
    rintro rfl
    rw [h] at hk
    cases hk
    simp [Obj.isCells] at hc
  rw [World.putObj_heap_other hne]
  exact hk

theorem cell_two_new (w : World) (x y : Value) (t : TypeId) : ∀ j u, [x, y][j]? = some u → (w.alloc (.cells #[x, y] t)).cell? ((⟨w.heap.size, 0, none⟩ : Addr).add j) = some u := by
  intro j u h
  have hh := heap_alloc_new w (.cells #[x, y] t)
  have e : ((⟨w.heap.size, 0, none⟩ : Addr).add j) = ⟨w.heap.size, j, none⟩ := by unfold Addr.add; split <;> simp_all
  rw [e]
  exact cell_of_heap hh (by simpa using h)
theorem row_slice {W : World} {base e size n : Nat} {v : Value} {xs : List Value} (h : W.ownsRow base e size v n xs) : ∃ A c, v = .slice A n c := by
  rcases h.2 with ⟨rfl, rfl⟩ | ⟨g, cap, cur, rfl, _⟩
  · exact ⟨_, _, rfl⟩
  · exact ⟨_, _, rfl⟩
theorem kept_appended {W w3 : World} {n0 B e size n k : Nat} {v v' : Value} {xs : List Value} {tmp : Obj} {cs : Array Value} {T : TypeId} {f : Nat × Nat} (hrow : W.ownsRow n0 e size v n xs) (hg : (W.alloc tmp).grownBy w3 v.ownBlock) (hk : W.heap[k]? = some (.cells cs T f)) (hT : T ≠ e) (hB : k ≠ B) :
    (w3.setCell ⟨B, 0, none⟩ v').heap[k]? = some (.cells cs T f) := by
  rw [heap_setCell_other _ _ _ _ (by exact hB)]
  have h1 : k < W.heap.size := heap_lt hk
  rw [hg.block k (by rw [World.size_alloc]; omega) ?_, heap_alloc_old _ _ h1, hk]
  rintro h
  rcases hrow.2 with ⟨rfl, _⟩ | ⟨g, cap, cur, rfl, _, hgb, _⟩
  · simp [Value.ownBlock] at h
  · obtain rfl : k = g := by simpa [Value.ownBlock] using h
    rw [hgb] at hk
    cases hk
    exact hT rfl
theorem keepT_appended {W w3 : World} {n0 B e size n : Nat} {v v' : Value} {xs : List Value} {tmp : Obj} {t : TypeId} (hv : Boxed W B t v) (hrow : W.ownsRow n0 e size v n xs) (hg : (W.alloc tmp).grownBy w3 v.ownBlock)
    (ht : t ≠ 189 ∧ t ≠ 999999) (he : e ≠ 189 ∧ e ≠ 999999) : KeepT W (w3.setCell ⟨B, 0, none⟩ v') := by
  intro k cs T hT hk
  refine kept_appended hrow hg hk (fun e' => ?_) (fun e' => ?_)
  · subst e'; rcases hT with h | h
    · exact he.1 h
    · exact he.2 h
  · subst e'
    rw [show W.heap[k]? = _ from hv] at hk
    cases hk
    rcases hT with h | h
    · exact ht.1 h
    · exact ht.2 h
end Go.Proofs.Ytipgbbhgmoehfaa
