/-
  Two tallies side by side; rows of pairs beside them.
-/
import Derived.Test.YtbafacdknaopjaaL1
namespace Go.Proofs.Ytbafacdknaopjaa
open Go.RowKit
set_option linter.unusedSimpArgs false
set_option linter.unusedSectionVars false

theorem node_typed {W : World} {k : Nat} {t : T} (h : t.At W) (hk : k ∈ t.blocks) : ∃ cs, W.heap[k]? = some (.cells cs 194 (0, 0)) := node_type h hk
theorem TalAt.typed {W : World} {F : List Nat} {A n : Nat} {lab wt : Nat → Nat} (h : TalAt W F A n lab wt) {k : Nat} (hk : k ∈ F) : ∃ cs t, W.heap[k]? = some (.cells cs t (0, 0)) ∧ t ≠ 48 := by
  obtain ⟨G, S, B, Fd, t, f, cg, rfl, h⟩ := h
  rcases List.mem_cons.1 hk with rfl | hk
  · exact ⟨_, _, h.head, by decide⟩
  · rcases List.mem_cons.1 hk with rfl | hk
    · obtain ⟨cs, hc⟩ := h.row.heap
      exact ⟨_, _, hc, by decide⟩
    · rcases List.mem_append.1 hk with hk | hk
      · obtain ⟨U, L, Z, up, rt, d, least, size, cu, cl, cz, rfl, hd⟩ := h.sets
        simp only [List.mem_cons, List.not_mem_nil, or_false] at hk
        rcases hk with rfl | rfl | rfl | rfl
        · exact ⟨_, _, hd.head, by decide⟩
        · obtain ⟨cs, hc⟩ := hd.rowU.heap
          exact ⟨_, _, hc, by decide⟩
        · obtain ⟨cs, hc⟩ := hd.rowL.heap
          exact ⟨_, _, hc, by decide⟩
        · obtain ⟨cs, hc⟩ := hd.rowZ.heap
          exact ⟨_, _, hc, by decide⟩
      · rcases List.mem_cons.1 hk with rfl | hk
        · exact ⟨_, _, h.bag.head, by decide⟩
        · obtain ⟨cs, hc⟩ := node_type h.bag.tree hk
          exact ⟨_, _, hc, by decide⟩
theorem Reads.moved {W W' : World} {v : Value} {L : Items} {F : List Nat} {A n : Nat} {lab wt : Nat → Nat} (h : Reads W v L) (ht : TalAt W F A n lab wt) (o : Only F W W') : Reads W' v L := h.same fun k cs hk => o.block k (heap_lt hk) fun hm => by
  obtain ⟨cs', t, h1, h2⟩ := ht.typed hm
  rw [hk] at h1
  cases h1
  exact h2 rfl

/-- Two tallies of the call's own. -/
structure Duo (w W : World) (F : List Nat) (A : Nat) (lab : Nat → Nat) (F' : List Nat) (A' : Nat) (lab' : Nat → Nat) (n : Nat) (wt : Nat → Nat) : Prop where
  left : OwnTal w W F A n lab wt
  right : OwnTal w W F' A' n lab' wt
  apart : ∀ k, k ∈ F → k ∉ F'
section
variable {w W W' : World} {F F' : List Nat} {A A' n : Nat} {lab lab' wt : Nat → Nat} (h : Duo w W F A lab F' A' lab' n wt)
include h
theorem Duo.keep (o : Only [] W W') : Duo w W' F A lab F' A' lab' n wt := ⟨h.left.keep o, h.right.keep o, h.apart⟩
theorem Duo.stepL {F1 : List Nat} {lab1 : Nat → Nat} (ht : TalAt W' F1 A n lab1 wt) (o : Only F W W') (g : Grew W F F1) : Duo w W' F1 A lab1 F' A' lab' n wt :=
  have hl := h.left.step ht o g
  ⟨hl, ⟨h.right.at_.only o fun k hk hm => h.apart k hm hk, h.right.new, hl.only⟩, fun k hk hm => (g k hk).elim (fun hf => h.apart k hf hm) fun hs => by have := h.right.at_.lt k hm; omega⟩
theorem Duo.stepR {F1 : List Nat} {lab1 : Nat → Nat} (ht : TalAt W' F1 A' n lab1 wt) (o : Only F' W W') (g : Grew W F' F1) : Duo w W' F A lab F1 A' lab1 n wt :=
  have hl := h.right.step ht o g
  ⟨⟨h.left.at_.only o h.apart, h.left.new, hl.only⟩, hl, fun k hk hm => (g k hm).elim (fun hf => h.apart k hk hf) fun hs => by have := h.left.at_.lt k hk; omega⟩
theorem Duo.stayL (ht : TalAt W' F A n lab wt) (o : Only F W W') : Duo w W' F A lab F' A' lab' n wt := h.stepL ht o fun _ hk => .inl hk
theorem Duo.stayR (ht : TalAt W' F' A' n lab' wt) (o : Only F' W W') : Duo w W' F A lab F' A' lab' n wt := h.stepR ht o fun _ hk => .inl hk
theorem Duo.only : Only [] w W := h.left.only
end
theorem Duo.mk2 {w W W' : World} {F F' : List Nat} {A A' n : Nat} {lab lab' wt : Nat → Nat} (h : OwnTal w W F A n lab wt) (h' : OwnTal W W' F' A' n lab' wt) : Duo w W' F A lab F' A' lab' n wt :=
  ⟨h.keep h'.only, ⟨h'.at_, fun k hk => Nat.le_trans h.only.size (h'.new k hk), h.only.trans h'.only⟩, fun k hk hm => by have := h.at_.lt k hk; have := h'.new k hm; omega⟩
end Go.Proofs.Ytbafacdknaopjaa
