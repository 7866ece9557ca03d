import Derived.Test.YtlhmdgaohonpbaaGreatDoorGSoP
import Derived.Test.YtlhmdgaohonpbaaGreatDoorGBz
set_option linter.unusedSimpArgs false
set_option linter.unusedVariables false
set_option linter.unusedSectionVars false
namespace Go.Proofs.YtlhmdgaohonpbaaGreatDoor
open Go.RowKit Go.Sort Go.Proofs.YtlhmdgaohonpbaaGreatDoor.MapRaw Go.ChangeMaps
theorem flat_encU (l : List Int) : l.flatMap encU = l.map (Value.int .u64) := by
 induction l with
 | nil => rfl
 | cons x r ih => rw [List.flatMap_cons, ih]; rfl
def sortedF (ks : List Int) : List Int := ks.mergeSort fun x y => decide (x ≤ y)
theorem sorted_perm (ks : List Int) : (sortedF ks).Perm ks := List.mergeSort_perm _ _
theorem sorted_len (ks : List Int) : (sortedF ks).length = ks.length := (sorted_perm ks).length_eq
theorem sort_own {base n : Nat} {v : Value} {ks : List Int} (w : World) (h : w.ownsRow base 34 1 v n (ks.flatMap encU)) (hn : n = ks.length) (hl : ks.length < 4611686018427387904) :
  Calls Tryz.prog 51 #[v] w fun e w' => e = .returned (.tuple #[]) ∧ w'.ownsRow base 34 1 v n ((sortedF ks).flatMap encU) ∧ w.grownBy w' v.ownBlock := by
 subst hn
 rw [flat_encU] at h
 rw [flat_encU]
 rcases h.2 with ⟨rfl, h0⟩ | ⟨g, cap, cur, rfl, hbase, hb, h1, h2, h3, h4⟩
 ·have hk : ks = [] := List.eq_nil_of_length_eq_zero h0
  subst hk
  refine (Srt.So.Sort_int_nil none 0 w).mono ?_
  rintro e w' ⟨rfl, rfl⟩
  have e : sortedF [] = [] := by unfold sortedF; simp
  rw [e]
  exact ⟨rfl, h, World.grownBy.refl _ _⟩
 ·have hH := Srt.holds_of_blockI (ss := ks) hb (by simpa using h4)
  refine (Srt.So.slices_Sort_int g 0 cap ks w hH (Array.getElem?_eq_some_iff.1 hb).1 hl).mono ?_
  rintro e w' ⟨rfl, m, os, rfl⟩
  exact ⟨rfl, Srt.ownsRow_sortedI (by rw [List.length_mergeSort]) hbase hb h1 h2 (by simpa using h3), Srt.grownBy_sortedI _⟩
theorem MapRaw.IterAt.move {κ ν : Type} [DecidableEq κ] {w w' : World} {ek : κ → Value} {ev ev' : ν → Value → Prop} {r b : Nat} {m left : List (κ × ν)} (h : IterAt w ek ev r b m left) (hb : w'.heap[b]? = w.heap[b]?) (hr : w'.heap[r]? = w.heap[r]?) (hv : ∀ p ∈ m, ∀ v, ev p.2 v → ev' p.2 v) : IterAt w' ek ev' r b m left := by
 obtain ⟨es, clock, seen, h1, h2, h3, h4⟩ := h
 exact ⟨es, clock, seen, hb.trans h1, h2.imp hv, hr.trans h3, h4⟩
theorem MapRaw.IterAt.blk {κ ν : Type} [DecidableEq κ] {w : World} {ek : κ → Value} {ev : ν → Value → Prop} {r b : Nat} {m left : List (κ × ν)} (h : IterAt w ek ev r b m left) : b < w.heap.size ∧ r < w.heap.size := by
 obtain ⟨es, clock, seen, h1, h2, h3, h4⟩ := h
 exact ⟨(Array.getElem?_eq_some_iff.1 h1).1, (Array.getElem?_eq_some_iff.1 h3).1⟩
section
variable {κ ν : Type} [DecidableEq κ] {ek : κ → Value} {ev : ν → Value → Prop} {m : List (κ × ν)}
theorem run_next_entry {P : Program} {w : World} {r b : Nat} {left : List (κ × ν)} (hit : IterAt w ek ev r b m left) (ty : TypeId) :
  (left = [] ∧ (Instr.next (.pointer (some ⟨r, 0, none⟩)) false ty).run P w = .ok (.tuple #[.bool false]) w) ∨
  ∃ p left' v w1 o, left.Perm (p :: left') ∧ ev p.2 v ∧ (w1 = w ∨ w1 = w.drew) ∧ (Instr.next (.pointer (some ⟨r, 0, none⟩)) false ty).run P w = .ok (.tuple #[.bool true, ek p.1, v]) (setBlock w1 r o) ∧ IterAt (setBlock w1 r o) ek ev r b m left' ∧
   (Instr.entry (.pointer (some ⟨r, 0, none⟩))).run P (setBlock w1 r o) = .ok (.tuple #[ek p.1, v]) (setBlock w1 r o) := by
 obtain ⟨es, clock, seen, hb, h, hr, rfl⟩ := hit
 have hrb : r ≠ b := by intro e; subst e; rw [hb] at hr; cases hr
 rcases run_next_at (P := P) w ty r b clock clock seen es clock hr hb h.born (Nat.le_refl _) with ⟨h0, hrun⟩ | ⟨e, he, w1, hw1, hrun⟩
 ·left
  refine ⟨?_, hrun⟩
  unfold leftM
  have : ∀ e ∈ es.toList, seen.contains e.born = true := by
   intro e he
   unfold leftOf at h0
   have h1 := Array.eq_empty_of_size_eq_zero h0
   rw [Array.filter_eq_empty_iff] at h1
   have := h1 e (by simpa using he)
   simpa using this
  rw [List.map_eq_nil_iff, List.filter_eq_nil_iff]
  intro p hp
  have := this p.2 (List.of_mem_zip hp).2
  simp only [this, Bool.not_true, Bool.false_eq_true, not_false_eq_true]
 ·right
  unfold leftOf at he
  have he1 : e ∈ es.toList ∧ seen.contains e.born = false := by simpa using he
  obtain ⟨i, hi⟩ := List.getElem?_of_mem he1.1
  have him : i < m.length := by rw [← h.len]; exact (List.getElem?_eq_some_iff.1 hi).1
  have hz : (m.zip es.toList)[i]? = some (m[i], e) := by
   rw [List.getElem?_zip_eq_some]; exact ⟨List.getElem?_eq_getElem him, hi⟩
  have hzm := List.mem_of_getElem? hz
  have hk : e.key = ek m[i].1 := by
   have hk := congrArg (fun l => l[i]?) h.keys
   simp only [List.getElem?_map, hi, List.getElem?_eq_getElem him, Option.map_some, Option.some.injEq] at hk
   exact hk
  have hnd : ((m.zip es.toList).map (·.2.born)).Nodup := by
   have : (m.zip es.toList).map (·.2.born) = es.toList.map (·.born) := by
    rw [show (fun p : (κ × ν) × MapEntry => p.2.born) = (fun e : MapEntry => e.born) ∘ Prod.snd from rfl, ← List.map_map]
    rw [List.map_snd_zip (by rw [h.len]; exact Nat.le_refl _)]
   rw [this]; exact h.bnd
  have hw1h : ∀ j : Nat, w1.heap[j]? = w.heap[j]? := by rcases hw1 with rfl | rfl <;> intro j <;> rfl
  have hmap : (setBlock w1 r (.mapIter (some b) clock (seen.push e.born) clock)).heap[b]? = some (.map es clock) := by
   unfold setBlock
   simp only [Array.getElem?_setIfInBounds, hrb, if_false]
   rw [hw1h]; exact hb
  have hitr : (setBlock w1 r (.mapIter (some b) clock (seen.push e.born) clock)).heap[r]? = some (.mapIter (some b) clock (seen.push e.born) clock) := by
   unfold setBlock
   simp only [Array.getElem?_setIfInBounds, if_true]
   have hsz : w1.heap.size = w.heap.size := by rcases hw1 with rfl | rfl <;> rfl
   rw [if_pos (by rw [hsz]; exact (Array.getElem?_eq_some_iff.1 hr).1)]
  refine ⟨m[i], leftM es (seen.push e.born) m, e.val, w1, _, ?_, h.vals i e _ hi (List.getElem?_eq_getElem him), hw1, by rw [hrun, hk], ⟨es, clock, seen.push e.born, hmap, h, hitr, rfl⟩, ?_⟩
  ·unfold leftM
   have hp := filter_one_out (fun p : (κ × ν) × MapEntry => !seen.contains p.2.born) (m[i], e) (m.zip es.toList) hnd hzm (by show (!seen.contains e.born) = true; rw [he1.2]; rfl)
   have e1 : ((m.zip es.toList).filter fun p => !(seen.push e.born).contains p.2.born) = (m.zip es.toList).filter fun y => (!seen.contains y.2.born) && !(y.2.born == e.born) := by
    apply List.filter_congr
    intro z _
    simp only [Array.contains_push, Bool.not_or]
   rw [e1]
   exact hp.map (fun p : (κ × ν) × MapEntry => p.1)
  ·rw [← hk]
   exact run_entry_at _ r b clock seen es clock e hitr hmap he1.1 h.bnd
variable {P : Program} {w : World} {ops : Array Oper} {rest : List Oper} {o : Oper} {a : Act} {Q : Exit → Act → World → Prop}
theorem wpList_next_entry (hg : o.guard = none) (it : Operand) (hop : o.op = Op.next it false) (r b : Nat) {left : List (κ × ν)} (hit : IterAt w ek ev r b m left) (hi : a.eval it = .pointer (some ⟨r, 0, none⟩))
  (hend : left = [] → wpList P ops Q rest (a.put o.dst (.tuple #[.bool false])) w)
  (hstep : ∀ p left' v w', left.Perm (p :: left') → ev p.2 v → IterAt w' ek ev r b m left' → w.grownBy w' (some r) → w'.heap.size = w.heap.size → (Instr.entry (.pointer (some ⟨r, 0, none⟩))).run P w' = .ok (.tuple #[ek p.1, v]) w' → wpList P ops Q rest (a.put o.dst (.tuple #[.bool true, ek p.1, v])) w') : wpList P ops Q (o :: rest) a w := by
 refine wpList_plain hg fun K' hK' => ?_
 unfold Oper.wp
 rcases run_next_entry (P := P) hit o.type with ⟨h0, h1⟩ | ⟨p, left', v, w1, ob, h1, h2, h3, h4, h5, h6⟩
 ·simp [execOp, hop, hi, h1, Result.andThen]
  exact hK' _ _ (hend h0)
 ·simp [execOp, hop, hi, h4, Result.andThen]
  refine hK' _ _ (hstep p left' v _ h1 h2 h5 ?_ ?_ h6)
  ·have := setBlock_grown w1 r ob
   rcases h3 with rfl | rfl
   ·exact this
   ·exact ⟨this.os, this.tape, this.output, this.size, this.block⟩
  ·rw [setBlock_size]; rcases h3 with rfl | rfl <;> rfl
end
theorem sorted_eq {a b : List Int} (h : a.Perm b) : sortedF a = sortedF b := by
 have tr : ∀ x y z : Int, decide (x ≤ y) = true → decide (y ≤ z) = true → decide (x ≤ z) = true := fun x y z h1 h2 => by simp at *; omega
 have tot : ∀ x y : Int, (decide (x ≤ y) || decide (y ≤ x)) = true := fun x y => by simp; omega
 have h1 : (sortedF a).Pairwise (fun x y => x ≤ y) := (List.pairwise_mergeSort tr tot a).imp (fun h => by simpa using h)
 have h2 : (sortedF b).Pairwise (fun x y => x ≤ y) := (List.pairwise_mergeSort tr tot b).imp (fun h => by simpa using h)
 exact List.Perm.eq_of_pairwise (fun x y _ _ => Int.le_antisymm) h1 h2 (((sorted_perm a).trans h).trans (sorted_perm b).symm)
end Go.Proofs.YtlhmdgaohonpbaaGreatDoor
