import Derived.Test.YtbjglcdoekbloaaGreatDoorGSoP
import Derived.Test.YtbjglcdoekbloaaGreatDoorGPlA
import Derived.Deep.QuietTactic
import Derived.BigQuiet
import Derived.Test.YtbjglcdoekbloaaGreatDoorGPlC
import Derived.Test.YtbjglcdoekbloaaGreatDoorGPlD
set_option linter.unusedSimpArgs false
set_option linter.unusedVariables false
set_option linter.unusedSectionVars false
/- head.inner.refs: all numbers, rising; head.Head.Count. -/
namespace Go.Proofs.YtbjglcdoekbloaaGreatDoor
open Go.RowKit Go.Sort Go.Proofs.YtbjglcdoekbloaaGreatDoor.MapRaw Go.ChangeMaps

theorem flat_encU (l : List Int) : l.flatMap encU = l.map (Value.int .u64) := by
  induction l with
  | nil => rfl
  | cons x r ih => rw [List.flatMap_cons, ih]; rfl
def sortedF (ks : List Int) : List Int := ks.mergeSort fun x y => decide (x ≤ y)
theorem sorted_perm (ks : List Int) : (sortedF ks).Perm ks := List.mergeSort_perm _ _
theorem sorted_len (ks : List Int) : (sortedF ks).length = ks.length := (sorted_perm ks).length_eq
theorem sort_own {base n : Nat} {v : Value} {ks : List Int} (w : World) (h : w.ownsRow base 23 1 v n (ks.flatMap encU)) (hn : n = ks.length) (hl : ks.length < 4611686018427387904) :
    Calls Tryz.prog 96 #[v] w fun e w' => e = .returned (.tuple #[]) ∧ w'.ownsRow base 23 1 v n ((sortedF ks).flatMap encU) ∧ w.grownBy w' v.ownBlock := by
  subst hn
  rw [flat_encU] at h
  rw [flat_encU]
  rcases h.2 with ⟨rfl, h0⟩ | ⟨g, cap, cur, rfl, hbase, hb, h1, h2, h3, h4⟩
  · have hk : ks = [] := List.eq_nil_of_length_eq_zero h0
    subst hk
    refine (Srt.So.Sort_int_nil none 0 w).mono ?_
    rintro e w' ⟨rfl, rfl⟩
    have e : sortedF [] = [] := by unfold sortedF; simp
    rw [e]
    exact ⟨rfl, h, World.grownBy.refl _ _⟩
  · have hH := Srt.holds_of_blockI (ss := ks) hb (by simpa using h4)
    refine (Srt.So.slices_Sort_int g 0 cap ks w hH (Array.getElem?_eq_some_iff.1 hb).1 hl).mono ?_
    rintro e w' ⟨rfl, m, os, rfl⟩
    exact ⟨rfl, Srt.ownsRow_sortedI (by rw [List.length_mergeSort]) hbase hb h1 h2 (by simpa using h3), Srt.grownBy_sortedI _⟩

/-! ### going through a map, and the entry -/
theorem MapRaw.IterAt.move {κ ν : Type} [DecidableEq κ] {w w' : World} {ek : κ → Value} {ev ev' : ν → Value → Prop} {r b : Nat} {m left : List (κ × ν)} (h : IterAt w ek ev r b m left) (hb : w'.heap[b]? = w.heap[b]?) (hr : w'.heap[r]? = w.heap[r]?) (hv : ∀ p ∈ m, ∀ v, ev p.2 v → ev' p.2 v) : IterAt w' ek ev' r b m left := by
  obtain ⟨es, clock, seen, h1, h2, h3, h4⟩ := h
  exact ⟨es, clock, seen, hb.trans h1, h2.imp hv, hr.trans h3, h4⟩
theorem MapRaw.IterAt.blk {κ ν : Type} [DecidableEq κ] {w : World} {ek : κ → Value} {ev : ν → Value → Prop} {r b : Nat} {m left : List (κ × ν)} (h : IterAt w ek ev r b m left) : b < w.heap.size ∧ r < w.heap.size := by
  obtain ⟨es, clock, seen, h1, h2, h3, h4⟩ := h
  exact ⟨(Array.getElem?_eq_some_iff.1 h1).1, (Array.getElem?_eq_some_iff.1 h3).1⟩
section
variable {κ ν : Type} [DecidableEq κ] {ek : κ → Value} {ev : ν → Value → Prop} {m : List (κ × ν)}
theorem run_next_entry {P : Program} {w : World} {r b : Nat} {left : List (κ × ν)} (hit : IterAt w ek ev r b m left) (ty : TypeId) :
    (left = [] ∧ (Instr.next (.pointer (some ⟨r, 0, none⟩)) false ty).run P w = .ok (.tuple #[.bool false]) w) ∨
    ∃ p left' v w1 o, left.Perm (p :: left') ∧ ev p.2 v ∧ (w1 = w ∨ w1 = w.drew) ∧ (Instr.next (.pointer (some ⟨r, 0, none⟩)) false ty).run P w = .ok (.tuple #[.bool true, ek p.1, v]) (setBlock w1 r o) ∧ IterAt (setBlock w1 r o) ek ev r b m left' ∧
      (Instr.entry (.pointer (some ⟨r, 0, none⟩))).run P (setBlock w1 r o) = .ok (.tuple #[ek p.1, v]) (setBlock w1 r o) := by
  obtain ⟨es, clock, seen, hb, h, hr, rfl⟩ := hit
  have hrb : r ≠ b := by intro e; subst e; rw [hb] at hr; cases hr
  rcases run_next_at (P := P) w ty r b clock clock seen es clock hr hb h.born (Nat.le_refl _) with ⟨h0, hrun⟩ | ⟨e, he, w1, hw1, hrun⟩
  · left
    refine ⟨?_, hrun⟩
    unfold leftM
    have : ∀ e ∈ es.toList, seen.contains e.born = true := by
      intro e he
      unfold leftOf at h0
      have h1 := Array.eq_empty_of_size_eq_zero h0
      rw [Array.filter_eq_empty_iff] at h1
      have := h1 e (by simpa using he)
      simpa using this
    rw [List.map_eq_nil_iff, List.filter_eq_nil_iff]
    intro p hp
    have := this p.2 (List.of_mem_zip hp).2
    simp only [this, Bool.not_true, Bool.false_eq_true, not_false_eq_true]
  · right
    unfold leftOf at he
    have he1 : e ∈ es.toList ∧ seen.contains e.born = false := by simpa using he
    obtain ⟨i, hi⟩ := List.getElem?_of_mem he1.1
    have him : i < m.length := by rw [← h.len]; exact (List.getElem?_eq_some_iff.1 hi).1
    have hz : (m.zip es.toList)[i]? = some (m[i], e) := by
      rw [List.getElem?_zip_eq_some]; exact ⟨List.getElem?_eq_getElem him, hi⟩
    have hzm := List.mem_of_getElem? hz
    have hk : e.key = ek m[i].1 := by
      have hk := congrArg (fun l => l[i]?) h.keys
      simp only [List.getElem?_map, hi, List.getElem?_eq_getElem him, Option.map_some, Option.some.injEq] at hk
      exact hk
    have hnd : ((m.zip es.toList).map (·.2.born)).Nodup := by
      have : (m.zip es.toList).map (·.2.born) = es.toList.map (·.born) := by
        rw [show (fun p : (κ × ν) × MapEntry => p.2.born) = (fun e : MapEntry => e.born) ∘ Prod.snd from rfl, ← List.map_map]
        rw [List.map_snd_zip (by rw [h.len]; exact Nat.le_refl _)]
      rw [this]; exact h.bnd
    have hw1h : ∀ j : Nat, w1.heap[j]? = w.heap[j]? := by rcases hw1 with rfl | rfl <;> intro j <;> rfl
    have hmap : (setBlock w1 r (.mapIter (some b) clock (seen.push e.born) clock)).heap[b]? = some (.map es clock) := by
      unfold setBlock
      simp only [Array.getElem?_setIfInBounds, hrb, if_false]
      rw [hw1h]; exact hb
    have hitr : (setBlock w1 r (.mapIter (some b) clock (seen.push e.born) clock)).heap[r]? = some (.mapIter (some b) clock (seen.push e.born) clock) := by
      unfold setBlock
      simp only [Array.getElem?_setIfInBounds, if_true]
      have hsz : w1.heap.size = w.heap.size := by rcases hw1 with rfl | rfl <;> rfl
      rw [if_pos (by rw [hsz]; exact (Array.getElem?_eq_some_iff.1 hr).1)]
    refine ⟨m[i], leftM es (seen.push e.born) m, e.val, w1, _, ?_, h.vals i e _ hi (List.getElem?_eq_getElem him), hw1, by rw [hrun, hk], ⟨es, clock, seen.push e.born, hmap, h, hitr, rfl⟩, ?_⟩
    · unfold leftM
      have hp := filter_one_out (fun p : (κ × ν) × MapEntry => !seen.contains p.2.born) (m[i], e) (m.zip es.toList) hnd hzm (by show (!seen.contains e.born) = true; rw [he1.2]; rfl)
      have e1 : ((m.zip es.toList).filter fun p => !(seen.push e.born).contains p.2.born) = (m.zip es.toList).filter fun y => (!seen.contains y.2.born) && !(y.2.born == e.born) := by
        apply List.filter_congr
        intro z _
        simp only [Array.contains_push, Bool.not_or]
      rw [e1]
      exact hp.map (fun p : (κ × ν) × MapEntry => p.1)
    · rw [← hk]
      exact run_entry_at _ r b clock seen es clock e hitr hmap he1.1 h.bnd
variable {P : Program} {w : World} {ops : Array Oper} {rest : List Oper} {o : Oper} {a : Act} {Q : Exit → Act → World → Prop}
theorem wpList_next_entry (hg : o.guard = none) (it : Operand) (hop : o.op = Op.next it false) (r b : Nat) {left : List (κ × ν)} (hit : IterAt w ek ev r b m left) (hi : a.eval it = .pointer (some ⟨r, 0, none⟩))
    (hend : left = [] → wpList P ops Q rest (a.put o.dst (.tuple #[.bool false])) w)
    (hstep : ∀ p left' v w', left.Perm (p :: left') → ev p.2 v → IterAt w' ek ev r b m left' → w.grownBy w' (some r) → w'.heap.size = w.heap.size → (Instr.entry (.pointer (some ⟨r, 0, none⟩))).run P w' = .ok (.tuple #[ek p.1, v]) w' → wpList P ops Q rest (a.put o.dst (.tuple #[.bool true, ek p.1, v])) w') : wpList P ops Q (o :: rest) a w := by
  refine wpList_plain hg fun K' hK' => ?_
  unfold Oper.wp
  rcases run_next_entry (P := P) hit o.type with ⟨h0, h1⟩ | ⟨p, left', v, w1, ob, h1, h2, h3, h4, h5, h6⟩
  · simp [execOp, hop, hi, h1, Result.andThen]
    exact hK' _ _ (hend h0)
  · simp [execOp, hop, hi, h4, Result.andThen]
    refine hK' _ _ (hstep p left' v _ h1 h2 h5 ?_ ?_ h6)
    · have := setBlock_grown w1 r ob
      rcases h3 with rfl | rfl
      · exact this
      · exact ⟨this.os, this.tape, this.output, this.size, this.block⟩
    · rw [setBlock_size]; rcases h3 with rfl | rfl <;> rfl
end

theorem sorted_eq {a b : List Int} (h : a.Perm b) : sortedF a = sortedF b := by
  have tr : ∀ x y z : Int, decide (x ≤ y) = true → decide (y ≤ z) = true → decide (x ≤ z) = true := fun x y z h1 h2 => by simp at *; omega
  have tot : ∀ x y : Int, (decide (x ≤ y) || decide (y ≤ x)) = true := fun x y => by simp; omega
  have h1 : (sortedF a).Pairwise (fun x y => x ≤ y) := (List.pairwise_mergeSort tr tot a).imp (fun h => by simpa using h)
  have h2 : (sortedF b).Pairwise (fun x y => x ≤ y) := (List.pairwise_mergeSort tr tot b).imp (fun h => by simpa using h)
  exact List.Perm.eq_of_pairwise (fun x y _ _ => Int.le_antisymm) h1 h2 (((sorted_perm a).trans h).trans (sorted_perm b).symm)
def refsF (H : Hd) : List Int := sortedF (H.pts.map (·.1))
def RefsPost (w : World) (H : Hd) (e : Ending) (w' : World) : Prop := ∃ v, e = .returned v ∧ SlU w' (fun k => w.heap.size ≤ k) v (refsF H) ∧ Below w.heap.size w w'
/-- where the loop stands -/
structure RefsTo (w : World) (X : List Nat) (o : HLoc) (H : Hd) (r : Nat) (v : Value) (left : List (Int × List Pt)) (w' : World) : Prop where
  ex : ∃ ks : List Int, w'.ownsRow (r + 1) 23 1 v ks.length (ks.flatMap encU) ∧ (ks ++ left.map (·.1)).Perm (H.pts.map (·.1))
  it : IterAt w' eU (evP w X) r o.pb H.pts left
  below : Below w.heap.size w w'
  le : w.heap.size ≤ r ∧ r < w'.heap.size
set_option maxRecDepth 100000 in
set_option maxHeartbeats 1000000 in
theorem inner_refs {X : List Nat} {o : HLoc} {H : Hd} (w : World) (h : InAt w X o H) (hl : H.pts.length ≤ 1000000) :
    Calls Tryz.prog 60 #[.pointer (some ⟨o.ib, 0, none⟩)] w (RefsPost w H) := by
  have i1 := blk_cell h.ic 1
  simp at i1
  obtain ⟨es, c, hb, hM⟩ := h.pts
  have HM := Lib.hid hM
  have HB := Lib.hid hb
  have HL := Lib.hid hl
  have HPb : Hid (o.pb < w.heap.size + 1) := Lib.hid (by have := (Array.getElem?_eq_some_iff.1 hb).1; omega)
  clear h hb hM hl
  go_enter Tryz.func60, Tryz.ntmps60
  go_wp2_with (refine wpList_range_raw rfl _ 88 _ _ rfl Tryz.underlying88 o.pb HB.out HM.out rfl ?_)
  intro w1 hit hg1 hs1
  go_wp2_with fail
  have hB1 := grown_below hg1
  have h0 : RefsTo w X o H w.heap.size (.slice none 0 0) H.pts w1 := ⟨⟨[], ⟨rfl, .inl ⟨rfl, rfl⟩⟩, by simp⟩, hit, hB1, ⟨Nat.le_refl _, by omega⟩⟩
  have H0 := Lib.hid h0
  have Hs1 : Hid (w.heap.size + 1 ≤ w1.heap.size) := Lib.hid (by omega)
  clear h0 hit hg1 hs1 hB1
  go_loopg [3] (H.pts.length) (fun g v3 wr => ∃ left, left.length ≤ g ∧ RefsTo w X o H w.heap.size v3 left wr)
  case atStart => exact ⟨H.pts, Nat.le_refl _, H0.out⟩
  case round =>
    obtain ⟨left, hgk, hR⟩ := hrel
    obtain ⟨ks, hown, hperm⟩ := hR.ex
    have HR := Lib.hid hR
    have HOwn := Lib.hid hown
    have HPerm := Lib.hid hperm
    clear hR hown hperm
    go_wp2_with (refine wpList_next_entry rfl _ rfl w.heap.size o.pb HR.out.it rfl ?hend ?hstep)
    case hend =>
      intro h0
      subst h0
      have hp := HPerm.out
      simp only [List.map_nil, List.append_nil] at hp
      have hlen : ks.length < 4611686018427387904 := by have := hp.length_eq; have := HL.out; simp at *; omega
      have hsort := sort_own wr HOwn.out rfl hlen
      have HSort := Lib.hid hsort
      have HEq : Hid (sortedF ks = refsF H) := Lib.hid (sorted_eq hp)
      have hB := Lib.hid HR.out.below
      have hle := Lib.hid HR.out.le
      clear hsort hlen hp
      go_wp2_with fail
      refine HSort.out.mono ?_
      rintro e w' ⟨rfl, ho, hg⟩
      have hsl := own_slc encU_len (by rw [sorted_len]) ho
      rw [HEq.out] at hsl
      have HSl := Lib.hid (hsl.mono (D' := fun k => w.heap.size ≤ k) (fun k _ hk => by omega))
      have HB' := Lib.hid ((hB.out).grown hg hB.out.size (fun k hk => by have := ownsRow_blk HOwn.out k hk; omega))
      clear ho hg hsl
      go_wp2_with fail
      go_ret
      exact ⟨_, rfl, HSl.out, HB'.out⟩
    case hstep =>
      intro pk pl left' v w' hpm hev hit' hg' hs' hentry
      have hle := HR.out.le
      have hown' : w'.ownsRow (w.heap.size + 1) 23 1 u3 ks.length (ks.flatMap encU) := ownsRow_move HOwn.out (fun k hk => by
        have := ownsRow_blk HOwn.out k hk
        exact hg'.block k this.2 (fun e => by cases e; omega))
      have hlen : ks.length ≤ 1000000 := by have := HPerm.out.length_eq; have := HL.out; simp at *; omega
      have HOw := Lib.hid hown'
      have HIt := Lib.hid hit'
      have HPm := Lib.hid hpm
      have HLen := Lib.hid hlen
      have HBw : Hid (Below w.heap.size w w') := Lib.hid (HR.out.below.grown hg' HR.out.below.size (fun k hk => by cases hk; exact Nat.le_refl _))
      have Hsz : Hid (w.heap.size < w'.heap.size) := Lib.hid (by omega)
      clear hown' hit' hpm hev hg' hs' hlen hle
      have HBa : Hid (Below w'.heap.size w' (w'.alloc (.cells #[.int .u64 pk] 23))) := Lib.hid (balloc (Below.refl _ _) _)
      have HOa := Lib.hid (own_below HOw.out HBa.out)
      have HSrc : Hid (SrcAt (w'.alloc (.cells #[.int .u64 pk] 23)) (.slice (some ⟨w'.heap.size, 0, none⟩) 1 1) 1 1 [.int .u64 pk]) := Lib.hid (src_block (m := 1) (size := 1) (blk_new w' (.cells #[.int .u64 pk] 23 (0, 0))) rfl (by intro u hu; simp at hu; subst hu; rfl) 1)
      go_wp2_with (at_builtin; refine wpList_app (w0 := w'.alloc (.cells #[.int .u64 pk] 23)) (w.heap.size + 1) rfl _ _ 89 23 _ 1 8 1 [.int .u64 pk] rfl Tryz.underlying89 info_u64 rfl (by decide) (by decide) u3 ks.length (ks.flatMap encU) ?hs ?hx HOa.out (Below.refl _ _) (by have := Hsz.out; simp; omega) (by have := HLen.out; omega) ?_)
      case hs => rfl
      case hx => exact HSrc.out
      intro v3 w6 hO3 hB3 hg3 hat3
      have hrto : RefsTo w X o H w.heap.size v3 left' w6 := by
        have hib := HIt.out.blk
        have hsz := Hsz.out
        refine ⟨⟨ks ++ [pk], by simpa using hO3, ?_⟩, ?_, ?_, ?_⟩
        · have h1 := HPerm.out
          have h2 : (left.map (·.1)).Perm (pk :: left'.map (·.1)) := HPm.out.map _
          refine (List.Perm.trans ?_ ((List.Perm.append_left ks h2).symm)).trans h1
          simp
        · refine HIt.out.move (hB3.block _ ?_ |>.trans (HBa.out.block _ hib.1)) (hB3.block _ ?_ |>.trans (HBa.out.block _ hib.2)) (fun _ _ _ h => h)
          · exact HPb.out
          · omega
        · exact (bthen HBw.out HBa.out).trans (hB3.mono (by omega))
        · have := hB3.size
          simp at this
          exact ⟨Nat.le_refl _, by omega⟩
      have HRt := Lib.hid hrto
      have hll : left'.length < left.length := by have := HPm.out.length_eq; simp at this; omega
      clear hO3 hB3 hg3 hat3 hrto
      go_wp2_with fail
      go_roundg (left'.length)
      case measure => omega
      case rel => exact ⟨left', Nat.le_refl _, HRt.out⟩
end Go.Proofs.YtbjglcdoekbloaaGreatDoor

/- the law's Big, Posts, writes. -/
namespace Go.Proofs.YtbjglcdoekbloaaGreatDoor
open Go.RowKit

/-- a write -/
structure Wr where
  seq : Int
  v : Value
  posts : List Po
def Wr.enc (x : Wr) : List Value := [.int .u64 x.seq, x.v]
def WrOk (w : World) (D : Nat → Prop) (l : List Wr) : Prop := ∀ x ∈ l, Slc 4 Po.enc w D x.v x.posts ∧ PoOk w D x.posts
theorem WrOk.move {w w' : World} {D : Nat → Prop} {l : List Wr} (h : WrOk w D l) (hs : w.heap.size ≤ w'.heap.size) (hb : ∀ k, k < w.heap.size → D k → w'.heap[k]? = w.heap[k]?) : WrOk w' D l := fun x hx => ⟨(h x hx).1.move hs hb, (h x hx).2.move hs hb⟩
theorem WrOk.below {w w' : World} {D : Nat → Prop} {l : List Wr} (h : WrOk w D l) (hb : Below w.heap.size w w') : WrOk w' D l := h.move hb.size fun k hk _ => hb.block k hk
theorem rdW_at {w : World} {A : Option Addr} {l : List Wr} (h : Rd 2 Wr.enc w A l) {k : Nat} (hk : k < l.length) :
    ∃ b off, A = some ⟨b, off, none⟩ ∧ w.cell? ⟨b, off + k * 2, none⟩ = some (.int .u64 l[k].seq) ∧ w.cell? ⟨b, off + k * 2 + 1, none⟩ = some l[k].v := by
  obtain ⟨b, off, e, h⟩ := h k l[k] (List.getElem?_eq_getElem hk)
  exact ⟨b, off, e, h 0 _ rfl, h 1 _ rfl⟩
def longB (x : Lb) : Bool := decide ((200 : Int) < (x.n.size : Int)) || decide ((200 : Int) < (x.v.size : Int))
def bigF (l : List Lb) : Bool := decide (30 < l.length) || l.any longB
def postsF (l : List Po) : Bool := !(l.any fun p => bigF p.lab) && decide (l.length ≤ 40)
def writesF (l : List Wr) : Bool := !(l.any fun x => !postsF x.posts) && decide (l.length ≤ 20)

set_option maxRecDepth 100000 in
set_option maxHeartbeats 1000000 in
theorem law_big {D : Nat → Prop} (v : Value) (l : List Lb) (w : World) (hv : SlL w D v l) (hz : SzL l) :
    Calls Tryz.prog 31 #[v] w fun e w' => e = .returned (.bool (bigF l)) ∧ Below w.heap.size w w' := by
  obtain ⟨A, c, rfl, p1, p2, p3, p4, p5⟩ := hv
  have HR := Lib.hid p5
  have HZ := Lib.hid hz
  have hm : l.length ≤ 9223372036854775807 := by simp only [maxLen] at p2; omega
  by_cases h30 : 30 < l.length
  · have e : bigF l = true := by unfold bigF; simp [h30]
    have h30' : decide ((30 : Int) < (l.length : Int)) = true := decide_eq_true (by omega)
    rw [e]
    clear h30 e p1 p2 p3 p4 p5 hz
    generalize l.length = n at *
    go_enter Tryz.func31, Tryz.ntmps31
    go_wp2
    go_ret
    exact ⟨rfl, Below.refl _ _⟩
  · have e : bigF l = l.any longB := by unfold bigF; simp [h30]
    have h30' : decide ((30 : Int) < (l.length : Int)) = false := decide_eq_false (by omega)
    rw [e]
    obtain ⟨n, hn⟩ : ∃ n, n = l.length := ⟨_, rfl⟩
    have Hn := Lib.hid hn
    rw [← hn] at h30' hm ⊢
    clear h30 e p1 p2 p3 p4 p5 hz hn
    go_enter Tryz.func31, Tryz.ntmps31
    go_wp2
    go_loopw [10] (fun i wr => ∃ k : Nat, k ≤ n ∧ i = .int .i64 k ∧ AnyTo longB l k ∧ Below w.heap.size w wr) (fun i _ => n - (intOf i).toNat)
    case atStart => exact ⟨0, Nat.zero_le _, rfl, AnyTo.start _ _, Below.refl _ _⟩
    case round =>
      obtain ⟨k, hk, rfl, hE, hB⟩ := hrel
      by_cases hlt : k < n
      · have hkl : k < l.length := by rw [← Hn.out]; exact hlt
        obtain ⟨b, off, rfl, z0, z1⟩ := RdL.at_ (Rd.below HR.out hB) hkl
        have hRd := hE.round hkl
        have hmu : longB l[k] = (decide ((200 : Int) < (l[k].n.size : Int)) || decide ((200 : Int) < (l[k].v.size : Int))) := rfl
        generalize l[k] = x at *
        obtain ⟨xn, xv⟩ := x
        simp only at z0 z1 hmu
        have HBr := Lib.hid hB
        have HBw : Hid (Below wr.heap.size wr (wr.alloc (.cells #[.string xn, .string xv] 124))) := Lib.hid (balloc (Below.refl _ _) _)
        clear hE hB
        by_cases h1 : (200 : Int) < (xn.size : Int)
        · have hh : longB ⟨xn, xv⟩ = true := by rw [hmu]; simp only [h1, decide_true, Bool.true_or]
          have h1' : decide ((200 : Int) < (xn.size : Int)) = true := decide_eq_true h1
          have hany : l.any longB = true := by rcases hRd with ⟨_, g⟩ | ⟨g, _⟩; exact g; rw [hh] at g; cases g
          have HA := Lib.hid hany
          clear hRd hmu hh hany
          go_wp2_with fail
          go_ret
          exact ⟨ret_bool HA.out.symm, bthen HBr.out HBw.out⟩
        · have h1' : decide ((200 : Int) < (xn.size : Int)) = false := decide_eq_false h1
          by_cases h2 : (200 : Int) < (xv.size : Int)
          · have hh : longB ⟨xn, xv⟩ = true := by rw [hmu]; simp only [h2, decide_true, Bool.or_true]
            have h2' : decide ((200 : Int) < (xv.size : Int)) = true := decide_eq_true h2
            have hany : l.any longB = true := by rcases hRd with ⟨_, g⟩ | ⟨g, _⟩; exact g; rw [hh] at g; cases g
            have HA := Lib.hid hany
            clear hRd hmu hh hany h1
            go_wp2_with fail
            go_ret
            exact ⟨ret_bool HA.out.symm, bthen HBr.out HBw.out⟩
          · have h2' : decide ((200 : Int) < (xv.size : Int)) = false := decide_eq_false h2
            have hh : longB ⟨xn, xv⟩ = false := by rw [hmu, h1', h2']; rfl
            have hE' : AnyTo longB l (k + 1) := by rcases hRd with ⟨g, _⟩ | ⟨_, g⟩; rw [hh] at g; cases g; exact g
            have HE := Lib.hid hE'
            clear hRd hmu hh hE' h1 h2
            go_wp2_with fail
            go_roundw
            case rel => exact ⟨k + 1, by omega, by go_num, HE.out, bthen HBr.out HBw.out⟩
            case measure => simp [intOf] <;> omega
      · have hEd := Lib.hid (hE.done (by rw [← Hn.out]; exact hlt))
        clear hE
        go_wp2_with fail
        go_ret
        exact ⟨ret_bool hEd.out.symm, hB⟩

set_option maxRecDepth 100000 in
set_option maxHeartbeats 1000000 in
theorem law_posts {D : Nat → Prop} (v : Value) (l : List Po) (w : World) (hv : Slc 4 Po.enc w D v l) (hl : PoOk w D l) :
    Calls Tryz.prog 9 #[v] w fun e w' => e = .returned (.bool (postsF l)) ∧ Below w.heap.size w w' := by
  obtain ⟨A, c, rfl, p1, p2, p3, p4, p5⟩ := hv
  have HR := Lib.hid p5
  have HL := Lib.hid hl
  have hm : l.length ≤ 9223372036854775807 := by simp only [maxLen] at p2; omega
  have hpf : postsF l = (!(l.any fun p => bigF p.lab) && decide ((l.length : Int) ≤ 40)) := by unfold postsF; congr 1; simp; omega
  have HP := Lib.hid hpf
  obtain ⟨n, hn⟩ : ∃ n, n = l.length := ⟨_, rfl⟩
  have Hn := Lib.hid hn
  rw [← hn] at hm HP ⊢
  clear p1 p2 p3 p4 p5 hl hn hpf
  go_enter Tryz.func9, Tryz.ntmps9
  go_wp2
  go_loopw [7] (fun i wr => ∃ k : Nat, k ≤ n ∧ i = .int .i64 k ∧ AnyTo (fun p => bigF p.lab) l k ∧ Below w.heap.size w wr) (fun i _ => n - (intOf i).toNat)
  case atStart => exact ⟨0, Nat.zero_le _, rfl, AnyTo.start _ _, Below.refl _ _⟩
  case round =>
    obtain ⟨k, hk, rfl, hE, hB⟩ := hrel
    by_cases hlt : k < n
    · have hkl : k < l.length := by rw [← Hn.out]; exact hlt
      obtain ⟨b, off, rfl, z0, z1, z2, z3⟩ := rdO_at (Rd.below HR.out hB) hkl
      have hx := HL.out _ (List.getElem_mem hkl)
      have hRd := hE.round hkl
      generalize l[k] = x at *
      obtain ⟨xat, xv, lab, xT, xV⟩ := x
      simp only at z0 z1 z2 z3 hx hRd
      have hbig := fun (W : World) (hW : Below w.heap.size w W) => law_big xv lab W (hx.1.below hW) hx.2
      obtain ⟨⟨A2, c2, rfl, -⟩, -⟩ := hx
      have HBig := Lib.hid hbig
      have HBr := Lib.hid hB
      clear hbig hE hB
      generalize lab.length = nlab at *
      have HBw : Hid (Below wr.heap.size wr (wr.alloc (.cells #[.int .i64 xat, .slice A2 nlab c2, .int .i64 xT, .int .u64 xV] 77))) := Lib.hid (balloc (Below.refl _ _) _)
      rcases hRd with ⟨g1, g2⟩ | ⟨g1, g2⟩
      · rw [g1] at HBig
        have hres : postsF l = false := by rw [HP.out, g2]; rfl
        have HRes := Lib.hid hres
        clear g1 g2 hres
        go_wp2_with fail
        refine (HBig.out _ (bthen HBr.out HBw.out)).mono ?_
        rintro e w' ⟨rfl, hb'⟩
        go_wp2_with fail
        go_ret
        exact ⟨ret_bool HRes.out.symm, bthen (bthen HBr.out HBw.out) hb'⟩
      · rw [g1] at HBig
        have HE := Lib.hid g2
        clear g1 g2
        go_wp2_with fail
        refine (HBig.out _ (bthen HBr.out HBw.out)).mono ?_
        rintro e w' ⟨rfl, hb'⟩
        go_wp2_with fail
        go_roundw
        case rel => exact ⟨k + 1, by omega, by go_num, HE.out, bthen (bthen HBr.out HBw.out) hb'⟩
        case measure => simp [intOf] <;> omega
    · have hEd := hE.done (by rw [← Hn.out]; exact hlt)
      have hres := HP.out
      rw [hEd] at hres
      simp only [Bool.not_false, Bool.true_and] at hres
      have HRes := Lib.hid hres
      clear hE hEd hres
      go_wp2_with fail
      go_ret
      exact ⟨ret_bool HRes.out.symm, hB⟩

theorem low_step {l : List Pt} {k : Nat} {t : Int} (hk : k < l.length) (h : k ≤ lowP l t) (hlt : l[k].T < t) : k + 1 ≤ lowP l t := by
  rcases Nat.lt_or_eq_of_le h with h | h
  · omega
  · subst h
    exact (lowP_at hk hlt).elim
theorem low_stop {l : List Pt} {k : Nat} {t : Int} (hk : k < l.length) (h : k ≤ lowP l t) (hge : t ≤ l[k].T) : lowP l t = k ∧ hasP l t = decide (l[k].T = t) := by
  have e : lowP l t = k := by
    rcases Nat.lt_or_eq_of_le h with h | h
    · have := lowP_lt hk h; omega
    · exact h.symm
  refine ⟨e, ?_⟩
  unfold hasP
  rw [e, List.getElem?_eq_getElem hk]
set_option maxRecDepth 100000 in
set_option maxHeartbeats 1000000 in
theorem ref_find (A : Option Addr) (c : Nat) (l : List Pt) (t : Int) (w : World) (hA : RdP w A l) (hl : l.length ≤ 1000000) :
    Calls Tryz.prog 47 #[.slice A l.length c, .int .i64 t] w fun e w' => e = .returned (.tuple #[.int .i64 (lowP l t), .bool (hasP l t)]) ∧ Below w.heap.size w w' := by
  have HR := Lib.hid hA
  obtain ⟨n, hn⟩ : ∃ n, n = l.length := ⟨_, rfl⟩
  have Hn := Lib.hid hn
  rw [← hn] at hl ⊢
  clear hA hn
  go_enter Tryz.func47, Tryz.ntmps47
  go_wp2
  go_loopw [10] (fun i wr => ∃ k : Nat, k ≤ n ∧ i = .int .i64 k ∧ k ≤ lowP l t ∧ Below w.heap.size w wr) (fun i _ => n - (intOf i).toNat)
  case atStart => exact ⟨0, Nat.zero_le _, rfl, Nat.zero_le _, Below.refl _ _⟩
  case round =>
    obtain ⟨k, hk, rfl, hE, hB⟩ := hrel
    by_cases hlt : k < n
    · have hkl : k < l.length := by rw [← Hn.out]; exact hlt
      obtain ⟨b, off, rfl, z0, z1, z2⟩ := RdP.at_ (RdP.below HR.out hB) hkl
      have hst := low_step (t := t) hkl hE
      have hsp := low_stop (t := t) hkl hE
      generalize l[k] = x at *
      obtain ⟨xT, xV, xS⟩ := x
      simp only at z0 z1 z2 hst hsp
      have HBr := Lib.hid hB
      have HBw : Hid (Below wr.heap.size wr (wr.alloc (.cells #[.int .i64 xT, .int .u64 xV, .int .u64 xS] 68))) := Lib.hid (balloc (Below.refl _ _) _)
      have HE := Lib.hid hE
      clear hB hE
      by_cases hge : t ≤ xT
      · obtain ⟨e1, e2⟩ := hsp hge
        have E1 := Lib.hid e1
        have E2 := Lib.hid e2
        have hd : decide (t ≤ xT) = true := decide_eq_true hge
        clear hst hsp e1 e2
        go_wp2
        go_quiet (fail)
        go_wp2
        go_ret2
        refine ⟨?_, bdr (bthen HBr.out HBw.out) _⟩
        rw [E1.out, E2.out]
        rfl
      · have hd : decide (t ≤ xT) = false := decide_eq_false hge
        have HS := Lib.hid (hst (by omega))
        clear hst hsp
        go_wp2
        go_roundw
        case rel => exact ⟨k + 1, by omega, by go_num, HS.out, bthen HBr.out HBw.out⟩
        case measure => simp [intOf] <;> omega
    · have hle := lowP_le l t
      have e1 : lowP l t = n := by have := Hn.out; omega
      have e2 : hasP l t = false := by
        unfold hasP
        rw [e1, List.getElem?_eq_none (by rw [← Hn.out]; exact Nat.le_refl _)]
      have E1 := Lib.hid e1
      have E2 := Lib.hid e2
      clear hle e1 e2 hE
      go_wp2
      go_ret2
      rw [E1.out, E2.out]
      exact ⟨rfl, hB⟩
end Go.Proofs.YtbjglcdoekbloaaGreatDoor

/- plain: the law's own example, reckoned. -/
namespace Go.Proofs.YtbjglcdoekbloaaGreatDoor
open Go.Proofs.YtbjglcdoekbloaaGreatDoor.MapRaw

def sA : ByteArray := ⟨#[97]⟩
def sX : ByteArray := ⟨#[120]⟩
def labX : List Lb := [⟨sA, sX⟩]
def H0 : Hd := ⟨⟨[], [], []⟩, [], 0⟩
def ptX : Pt := ⟨5, 0, 1⟩
def r1X : Rec := ⟨1, 1, labX, []⟩
def r2X : Rec := ⟨2, 0, [], [⟨1, ptX⟩]⟩
def H1 : Hd := addH H0 1 labX
def H2 : Hd := ⟨H1.ix, [(1, [ptX])], 1⟩
theorem right_labX : rightF labX = 0 := by
  have h1 : wrongF ⟨sA, sX⟩ false = 0 := by
    have hn : namedF sA = true := by decide
    have hv : valuedF sX = true := by
      unfold valuedF
      have : Lib.validD sX.data.toList = true := by decide
      rw [this]; decide
    unfold wrongF
    rw [hn, hv]; decide
  have : ¬ 16 < labX.length := by decide
  unfold rightF
  rw [if_neg this]
  unfold labX rightFrom
  rw [h1]
  rfl
theorem live_plan (v : Value) : planF H0 1 [⟨3, v, labX, 5, 0⟩] = ([r1X, r2X], [⟨3, true⟩], 0) := by
  have h1 : labsErr [⟨3, v, labX, 5, 0⟩] = 0 := by unfold labsErr; rw [if_neg (by simp [right_labX])]; rfl
  have h2 : lookAll H0.ix H0.top [labX] = ⟨[(labX, 1)], [⟨1, 1, labX, []⟩], 1⟩ := by
    unfold lookAll
    rw [List.foldl_cons, List.foldl_nil]
    refine (lookStep_none ?_).trans rfl
    unfold lookRef refF
    simp [H0, mget]
  unfold planF
  rw [if_neg (by simp), if_neg (by decide), if_neg (by simp [h1]), List.map_cons, List.map_nil, h2]
  rw [if_neg (by decide)]
  have h3 : wlAll H0 1 ([⟨3, v, labX, 5, 0⟩].zip (Lk.of ⟨[(labX, 1)], [⟨1, 1, labX, []⟩], 1⟩)) ⟨[], []⟩ = (0, ⟨[(1, [ptX])], [⟨1, ptX⟩]⟩) := by rfl
  rw [h3]
  rfl
theorem live_rec1 : recordF H0 r1X = (0, H1) := by
  have hc : checkF r1X = 0 := by unfold checkF r1X; simp [right_labX]
  unfold recordF
  rw [if_neg (by simp [hc]), if_pos (show r1X.kind = 1 from rfl)]
  unfold seriesF
  rw [if_neg (by simp [H0, mget])]
  unfold addR
  have ha : addErr H0.ix r1X.ref r1X.lab = 0 := by
    unfold addErr
    have : rightF r1X.lab = 0 := right_labX
    rw [this, if_neg (by decide), if_neg (by simp [H0, mget]), if_neg (by decide)]
  rw [if_neg (by simp [ha])]
  rfl
theorem live_rec2 : recordF H1 r2X = (0, H2) := by
  have hc : checkF r2X = 0 := by decide
  unfold recordF
  rw [if_neg (by simp [hc]), if_neg (by decide)]
  rfl
theorem live_get : getF H2 labX = some [ptX] := by
  have : refF H2.ix labX = some 1 := by
    unfold refF
    rw [if_pos right_labX]
    show mget [(printF labX, (1 : Int))] (printF labX) = some 1
    simp [mget]
  unfold getF
  rw [this]
  rfl
/-- how many points there are -/
def cntP (H : Hd) : Nat := ((refsF H).map fun r => ((mget H.pts r).getD []).length).sum
theorem live_cnt : H2.ix.all.length = 1 ∧ cntP H2 = 1 := by
  refine ⟨rfl, ?_⟩
  have : refsF H2 = [1] := by
    have h := sorted_perm (H2.pts.map (·.1))
    exact List.perm_singleton.1 h
  unfold cntP
  rw [this]
  rfl
end Go.Proofs.YtbjglcdoekbloaaGreatDoor

/- head.Head.Count; the law's one, live. -/
namespace Go.Proofs.YtbjglcdoekbloaaGreatDoor
open Go.RowKit Go.Proofs.YtbjglcdoekbloaaGreatDoor.MapRaw Go.ChangeMaps

def sumTo (H : Hd) (l : List Int) (k : Nat) : Nat := ((l.take k).map fun r => ((mget H.pts r).getD []).length).sum
theorem sumTo_add (H : Hd) (l : List Int) (k : Nat) (hk : k < l.length) : sumTo H l (k + 1) = sumTo H l k + ((mget H.pts l[k]).getD []).length := by
  unfold sumTo
  rw [List.take_succ_eq_append_getElem hk, List.map_append, List.sum_append]
  simp only [List.map_cons, List.map_nil, List.sum_cons, List.sum_nil, Nat.add_zero]
theorem sumTo_le (H : Hd) (l : List Int) (h : ∀ r, ((mget H.pts r).getD []).length ≤ 65536) : ∀ k, sumTo H l k ≤ k * 65536 := by
  intro k
  induction k with
  | zero => simp [sumTo]
  | succ k ih =>
    by_cases hk : k < l.length
    · rw [sumTo_add H l k hk]; have := h l[k]; omega
    · have : sumTo H l (k + 1) = sumTo H l k := by unfold sumTo; rw [List.take_of_length_le (by omega), List.take_of_length_le (by omega)]
      omega
def CountPost (w : World) (H : Hd) (e : Ending) (w' : World) : Prop := e = .returned (.tuple #[.int .i64 H.ix.all.length, .int .i64 (cntP H)]) ∧ Below w.heap.size w w'
set_option maxRecDepth 100000 in
set_option maxHeartbeats 1000000 in
theorem head_count {X : List Nat} {o : HLoc} {H : Hd} (w : World) (h : HeadAt w X o H) (hl : H.pts.length ≤ 1000000) :
    Calls Tryz.prog 20 #[.pointer (some ⟨o.hp, 0, none⟩)] w (CountPost w H) := by
  have c0 := blk_cell h.hc 0
  have i0 := blk_cell h.inn.ic 0
  have i1 := blk_cell h.inn.ic 1
  simp at c0 i0 i1
  have href := inner_refs w h.inn hl
  unfold RefsPost at href
  have HRef := Lib.hid href
  have HH := Lib.hid h
  have hpl : ∀ r, ((mget H.pts r).getD []).length ≤ 65536 := fun r => by
    obtain ⟨_, _, _, _, _, hev, _⟩ := pts_look h.inn.pts r
    exact hev.2
  have HPl := Lib.hid hpl
  have hrl : (refsF H).length ≤ 1000000 := by unfold refsF; rw [sorted_len]; simpa using hl
  obtain ⟨l, hl2⟩ : ∃ l, refsF H = l := ⟨_, rfl⟩
  have hcnt : cntP H = sumTo H l l.length := by unfold cntP sumTo; rw [hl2, List.take_length]
  have HCnt := Lib.hid hcnt
  rw [hl2] at hrl HRef
  obtain ⟨n, hn⟩ : ∃ n, n = l.length := ⟨_, rfl⟩
  have Hn := Lib.hid hn
  rw [← hn] at hrl
  clear h href hl hpl hl2 hcnt hn
  go_enter Tryz.func20, Tryz.ntmps20
  go_wp2_with fail
  refine (head_is _ _ _ c0).mono ?_
  rintro e w' ⟨rfl, rfl⟩
  go_wp2_with fail
  refine HRef.out.mono ?_
  rintro e w1 ⟨v, rfl, hv, hb⟩
  obtain ⟨A, c, rfl, p1, p2, p3, p4, p5⟩ := hv
  have HR := Lib.hid p5
  have HB1 := Lib.hid hb
  rw [← Hn.out]
  clear p1 p2 p3 p4 p5 hb
  go_wp2_with fail
  go_loopw [4, 16] (fun s i wr => ∃ k : Nat, k ≤ n ∧ i = .int .i64 k ∧ s = .int .i64 (sumTo H l k) ∧ Below w1.heap.size w1 wr) (fun _ i _ => n - (intOf i).toNat)
  case atStart => exact ⟨0, Nat.zero_le _, rfl, rfl, Below.refl _ _⟩
  case round =>
    obtain ⟨k, hk, rfl, rfl, hB⟩ := hrel
    have c1 := later (bthen HB1.out hB) c0
    have j0 := later (bthen HB1.out hB) i0
    have j1 := later (bthen HB1.out hB) i1
    by_cases hlt : k < n
    · have hkl : k < l.length := by rw [← Hn.out]; exact hlt
      obtain ⟨b, off, rfl, z0⟩ := rdU_at (Rd.below HR.out hB) hkl
      obtain ⟨ep, cp, pv, hop, _, hev, hlp⟩ := pts_look (HH.out.below (bthen HB1.out hB)).inn.pts l[k]
      have hlp1 := hlp _ hop
      have hadd := sumTo_add H l k hkl
      have hle := sumTo_le H l HPl.out k
      have hlen := HPl.out l[k]
      generalize l[k] = q at *
      obtain ⟨⟨A2, c2, rfl, -⟩, -⟩ := hev
      generalize ((mget H.pts q).getD []).length = m at *
      generalize sumTo H l k = s at *
      have hsum : IntKind.i64.wrap ((s : Int) + (m : Int)) = (s : Int) + (m : Int) := IntWalk.i64_in _ (by omega)
      have HAdd := Lib.hid hadd
      have HBr := Lib.hid hB
      clear hadd hop hlp hB
      go_wp2_with fail
      go_roundw
      case rel => exact ⟨k + 1, by omega, by go_num, by rw [HAdd.out]; go_num, HBr.out⟩
      case measure => simp [intOf] <;> omega
    · have hkn : k = n := by omega
      subst hkn
      have HB2 := Lib.hid (bthen HB1.out hB)
      have hlen := ix_len wr (HH.out.below HB2.out).inn.ix
      have HLen := Lib.hid hlen
      have hc2 : cntP H = sumTo H l k := by rw [HCnt.out, ← Hn.out]
      have HC2 := Lib.hid hc2
      clear hlen hc2 hB
      go_wp2_with fail
      refine HLen.out.mono ?_
      rintro e w' ⟨rfl, rfl⟩
      go_wp2_with fail
      go_ret2
      exact ⟨by rw [HC2.out]; rfl, HB2.out⟩

def OnePost (w : World) (s : ByteArray) (e : Ending) (w' : World) : Prop := ∃ v, e = .returned v ∧ SlL w' (fun k => w.heap.size ≤ k) v [⟨sA, s⟩] ∧ Below w.heap.size w w'
set_option maxHeartbeats 1000000 in
theorem law_one (s : ByteArray) (w : World) : Calls Tryz.prog 19 #[.string s] w (OnePost w s) := by
  go_enter Tryz.func19, Tryz.ntmps19
  go_wp2
  go_ret
  refine ⟨_, rfl, ⟨_, _, rfl, Nat.le_refl _, by simp [maxLen], (fun e => by cases e), (fun ad e _ => by cases e; exact ⟨rfl, Nat.le_refl _, by simp⟩), ?_⟩, balloc (Below.refl _ _) _⟩
  intro i x hx
  have hi : i = 0 := by cases i with | zero => rfl | succ i => simp at hx
  subst hi
  simp at hx
  subst hx
  refine ⟨_, _, rfl, fun j u hj => ?_⟩
  match j, hj with
  | 0, hj => simp [Lb.enc] at hj; subst hj; simp [sA]
  | 1, hj => simp [Lb.enc] at hj; subst hj; simp
  | j + 2, hj => simp [Lb.enc] at hj
end Go.Proofs.YtbjglcdoekbloaaGreatDoor

/- the law's live: the chapter's example is so. -/
namespace Go.Proofs.YtbjglcdoekbloaaGreatDoor
open Go.RowKit Go.Proofs.YtbjglcdoekbloaaGreatDoor.MapRaw Go.ChangeMaps

theorem run_neq_mkX (w : World) : (binOp .neq 79 (.agg #[.int .i64 3, .bool true]) (.agg #[.int .i64 3, .bool true])).run Tryz.prog w = .ok (.bool false) w := by kernel_rfl
theorem mk_guard : Tryz.prog.eqGuardType Tryz.prog.depth 79 = false := by kernel_rfl
theorem run_guard_mk (w : World) (op : BinOp) (x y : Operand) (xs ys : Array Value) : (eqGuard op 79 x y (.agg xs) (.agg ys)).run Tryz.prog w = .ok () w := run_eqGuard_agg w op _ x y xs ys mk_guard
theorem apart_below {w w1 w2 : World} {P : Nat → Prop} (h : Below w.heap.size w w1) (hA : Apart P w1 w2) (hP : ∀ k, P k → w.heap.size ≤ k) : Below w.heap.size w w2 := by
  refine ⟨hA.os.trans h.os, hA.tape.trans h.tape, hA.output.trans h.output, Nat.le_trans h.size hA.size, fun k hk => ?_⟩
  rw [hA.block k (Nat.lt_of_lt_of_le hk h.size) (fun hp => by have := hP k hp; omega)]
  exact h.block k hk
theorem rdR_at {w : World} {A : Option Addr} {l : List RecV} (h : Rd 4 RecV.enc w A l) {k : Nat} (hk : k < l.length) :
    ∃ b off, A = some ⟨b, off, none⟩ ∧ w.cell? ⟨b, off + k * 4, none⟩ = some (.int .i64 l[k].r.kind) ∧ w.cell? ⟨b, off + k * 4 + 1, none⟩ = some (.int .u32 l[k].r.ref) ∧ w.cell? ⟨b, off + k * 4 + 2, none⟩ = some l[k].lv ∧ w.cell? ⟨b, off + k * 4 + 3, none⟩ = some l[k].pv := by
  obtain ⟨b, off, e, h⟩ := h k l[k] (List.getElem?_eq_getElem hk)
  exact ⟨b, off, e, h 0 _ rfl, h 1 _ rfl, h 2 _ rfl, h 3 _ rfl⟩
theorem szX : SzL labX := fun x hx => by simp [labX] at hx; subst hx; exact ⟨by decide, by decide⟩
/-- a head that the call made -/
structure Mine (w : World) (X : List Nat) (o : HLoc) (H : Hd) (w' : World) : Prop where
  head : HeadAt w' X o H
  new : ∀ k ∈ X, w.heap.size ≤ k
  below : Below w.heap.size w w'
theorem Mine.then {w w1 w2 : World} {X : List Nat} {o : HLoc} {H : Hd} (h : Mine w X o H w1) (hb : Below w1.heap.size w1 w2) : Mine w X o H w2 := ⟨h.head.below hb, h.new, bthen h.below hb⟩
/-- behind a record -/
theorem Mine.turn {w w1 w2 : World} {X : List Nat} {o : HLoc} {H : Hd} {r : Int × Hd} {e : Ending} (h : Mine w X o H w1) (ht : TurnPost w1 X o r e w2) : ∃ o' X', Mine w X' o' r.2 w2 ∧ o'.hp = o.hp ∧ MoreX w1 X X' ∧ Apart (fun k => k ∈ X) w1 w2 := by
  obtain ⟨_, o', X', h1, h2, h3, h4⟩ := ht
  obtain ⟨o2, X2, g1, g2, g3, g4⟩ := TurnRest.head h.head (show TurnRest w1 X o r.2 w2 from ⟨o', X', h1, h2, h3, h4⟩)
  have g5 : Apart (fun k => k ∈ X) w1 w2 := g4.apart.mono (fun k _ hk => h.head.inn.bsub k hk)
  exact ⟨o2, X2, ⟨g1, fun k hk => (g3.new k hk).elim (h.new k) (fun h2 => Nat.le_trans h.below.size h2), apart_below h.below g5 h.new⟩, g2, g3, g5⟩
/-- what does not lie in the head's blocks stays -/
theorem Slc.turn {α : Type} {sz : Nat} {enc : α → List Value} {w w' : World} {X X' : List Nat} {v : Value} {l : List α} (h : Slc sz enc w (fun k => k ∉ X) v l) (hA : Apart (fun k => k ∈ X) w w') (hX : MoreX w X X') : Slc sz enc w' (fun k => k ∉ X') v l :=
  ((Slc.mono (D' := fun k => k ∉ X ∧ k ∉ X') h (fun k hk hkX => ⟨hkX, fun h2 => (hX.new k h2).elim hkX (fun h3 => by omega)⟩)).move hA.size (fun k hk hD => hA.block k hk hD.1)).mono (fun k _ hD => hD.2)

theorem one_post (w : World) (at_ : Int) (v : Value) (lab : List Lb) (T V : Int) : Slc 4 Po.enc (w.alloc (.cells #[.int .i64 at_, v, .int .i64 T, .int .u64 V] 77)) (fun _ => True) (.slice (some ⟨w.heap.size, 0, none⟩) 1 1) [⟨at_, v, lab, T, V⟩] := by
  refine ⟨_, _, rfl, Nat.le_refl _, by simp [maxLen], (fun e => by cases e), (fun ad e _ => by cases e; exact ⟨rfl, trivial, by simp⟩), ?_⟩
  intro i x hx
  have hi : i = 0 := by cases i with | zero => rfl | succ i => simp at hx
  subst hi
  simp at hx
  subst hx
  refine ⟨_, _, rfl, fun j u hj => ?_⟩
  match j, hj with
  | 0, hj => simp [Po.enc] at hj; subst hj; simp
  | 1, hj => simp [Po.enc] at hj; subst hj; simp
  | 2, hj => simp [Po.enc] at hj; subst hj; simp
  | 3, hj => simp [Po.enc] at hj; subst hj; simp
  | j + 4, hj => simp [Po.enc] at hj
set_option maxRecDepth 100000 in
set_option maxHeartbeats 2000000 in
theorem law_live (w : World) (hT : Tabs w) (h2 : 2 ≤ w.heap.size) : Calls Tryz.prog 7 #[] w fun e w' => e = .returned (.bool true) ∧ Below w.heap.size w w' := by
  have hnew := head_new w
  unfold HNewPost at hnew
  have HNew := Lib.hid hnew
  have HT := Lib.hid hT
  clear hnew hT
  go_enter Tryz.func7, Tryz.ntmps7
  go_wp2_with fail
  refine HNew.out.mono ?_
  rintro e w1 ⟨o, X, rfl, hh, hx, hb⟩
  have HM1 : Hid (Mine w X o H0 w1) := Lib.hid ⟨hh, hx, hb⟩
  clear hh hx hb HNew
  go_wp2_with fail
  have hone := law_one sX w1
  unfold OnePost at hone
  refine hone.mono ?_
  rintro e w2 ⟨v1, rfl, hv1, hb2⟩
  obtain ⟨A1, c1, rfl, hv1'⟩ := id hv1
  have HV1 := Lib.hid hv1
  have HB2 := Lib.hid hb2
  clear hv1 hv1' hb2
  have HBa : Hid (Below w2.heap.size w2 (w2.alloc (.cells #[.int .i64 3, .slice A1 [(⟨sA, sX⟩ : Lb)].length c1, .int .i64 5, .int .u64 0] 77))) := Lib.hid (balloc (Below.refl _ _) _)
  have hsl := one_post w2 3 (.slice A1 [(⟨sA, sX⟩ : Lb)].length c1) labX 5 0
  have hpo : PoOk (w2.alloc (.cells #[.int .i64 3, .slice A1 [(⟨sA, sX⟩ : Lb)].length c1, .int .i64 5, .int .u64 0] 77)) (fun _ => True) [⟨3, .slice A1 [(⟨sA, sX⟩ : Lb)].length c1, labX, 5, 0⟩] := fun x hx => by
    simp at hx; subst hx
    exact ⟨(HV1.out.below HBa.out).mono (fun _ _ _ => trivial), szX⟩
  have hbw := bthen (bthen HM1.out.below HB2.out) HBa.out
  have hplan := head_plan 1 _ _ _ ((HM1.out.then HB2.out).then HBa.out).head hsl hpo (HT.out.below hbw h2) (Nat.le_trans h2 hbw.size) ⟨by decide, by decide⟩ (by simp [H0])
  rw [live_plan] at hplan
  unfold PlanPost at hplan
  have HPl := Lib.hid hplan
  have HM2 := Lib.hid ((HM1.out.then HB2.out).then HBa.out)
  clear hsl hpo hbw hplan
  simp only [List.length_cons, List.length_nil, Nat.zero_add] at HPl
  go_wp2_with fail
  refine HPl.out.mono ?_
  rintro e w3 ⟨rv, mv, rl, rfl, hr1, hr2, hr3, hm, hb3⟩
  have HM3 := Lib.hid (HM2.out.then hb3)
  obtain ⟨x1, x2, hrl⟩ : ∃ x1 x2, rl = [x1, x2] := by
    match rl, hr3 with
    | [x1, x2], _ => exact ⟨x1, x2, rfl⟩
    | [], h => simp at h
    | [_], h => simp at h
    | _ :: _ :: _ :: _, h => simp at h
  subst hrl
  simp only [List.map_cons, List.map_nil, List.cons.injEq, and_true] at hr3
  obtain ⟨e1, e2⟩ := hr3
  obtain ⟨r1, lv1, pv1⟩ := x1
  obtain ⟨r2, lv2, pv2⟩ := x2
  simp only at e1 e2
  subst e1; subst e2
  have hx1 := hr2 _ (List.mem_cons_self ..)
  have hx2 := hr2 _ (List.mem_cons_of_mem _ (List.mem_cons_self ..))
  simp only at hx1 hx2
  have hr1' := hr1
  obtain ⟨Ar, cr, rfl, -, -, -, had, hR⟩ := hr1
  obtain ⟨br, offr, rfl, u0, u1, u2, u3⟩ := rdR_at hR (k := 0) (by simp)
  obtain ⟨br2, offr2, eA, t0, t1, t2, t3⟩ := rdR_at hR (k := 1) (by simp)
  cases eA
  obtain ⟨Am, cm, rfl, -, -, -, -, hMk⟩ := hm
  obtain ⟨bm, offm, rfl, hmc⟩ := hMk 0 _ rfl
  have m0 := hmc 0 _ rfl
  have m1 := hmc 1 _ rfl
  simp at u0 u1 u2 u3 t0 t1 t2 t3 m0 m1
  have hlt := HM2.out.head.inn.ix.lt
  have toX : ∀ {α : Type} {sz : Nat} {enc : α → List Value} {v : Value} {l : List α}, Slc sz enc w3 (fun k => (w2.alloc (.cells #[.int .i64 3, .slice A1 1 c1, .int .i64 5, .int .u64 0] 77)).heap.size ≤ k) v l → Slc sz enc w3 (fun k => k ∉ X) v l :=
    fun h => Slc.mono h (fun k _ hk2 hm => by have := hlt k hm; simp at this hk2; omega)
  have hrec1 := head_record r1X lv1 pv1 w3 HM3.out.head (toX hx1.1) (toX hx1.2) szX (HT.out.below HM3.out.below h2) (Nat.le_trans h2 HM3.out.below.size) ⟨by decide, by decide⟩ (by simp [r1X])
  rw [live_rec1] at hrec1
  have HRec1 := Lib.hid hrec1
  have HL2 := Lib.hid (toX hx2.1)
  have HP2 := Lib.hid (toX hx2.2)
  have hR' : Slc 4 RecV.enc w3 (fun k => k ∉ X) (.slice (some ⟨br, offr, none⟩) 2 cr) [⟨r1X, lv1, pv1⟩, ⟨r2X, lv2, pv2⟩] := toX hr1'
  have HR' := Lib.hid hR'
  obtain ⟨Al1, cl1, rfl, -⟩ := hx1.1
  obtain ⟨Ap1, cp1, rfl, -⟩ := hx1.2
  obtain ⟨Al2, cl2, rfl, -⟩ := hx2.1
  obtain ⟨Ap2, cp2, rfl, -⟩ := hx2.2
  have hmk := run_neq_mkX
  have hgk := run_guard_mk
  clear hlt toX hrec1 hx1 hx2 had hR hmc hR' hMk HPl hr2 hr1'
  simp only [r1X, r2X, labX, List.length_cons, List.length_nil, Nat.zero_add, Nat.reduceAdd] at *
  go_wp2_with fail
  refine HRec1.out.mono ?_
  rintro e w4 ht
  obtain ⟨o2, X2, hM4, hop, hX4, hA4⟩ := HM3.out.turn ht
  have he := ht.1
  subst he
  have HM4 := Lib.hid hM4
  have hr4 := HR'.out.turn hA4 hX4
  have HL4 := Lib.hid (HL2.out.turn hA4 hX4)
  have HP4 := Lib.hid (HP2.out.turn hA4 hX4)
  have Hop := Lib.hid hop
  obtain ⟨_, _, e4, -, -, -, -, hR4⟩ := hr4
  cases e4
  obtain ⟨br4, offr4, eA, t0, t1, t2, t3⟩ := rdR_at hR4 (k := 1) (by simp)
  cases eA
  simp at t0 t1 t2 t3
  have hrec2 := head_record r2X (.slice Al2 0 cl2) (.slice Ap2 1 cp2) w4 HM4.out.head HL4.out HP4.out (fun x hx => by simp [r2X] at hx) (HT.out.below HM4.out.below h2) (Nat.le_trans h2 HM4.out.below.size) ⟨by decide, by decide⟩ (fun x hx => by simp [r2X] at hx; subst hx; exact ⟨by decide, by decide⟩)
  rw [live_rec2, hop] at hrec2
  have HRec2 := Lib.hid hrec2
  clear ht hM4 hop hX4 hA4 hR4 hrec2 HRec1 HR' HL2 HP2
  simp only [r1X, r2X, labX, List.length_cons, List.length_nil, Nat.zero_add, Nat.reduceAdd] at *
  go_wp2_with fail
  refine HRec2.out.mono ?_
  rintro e w5 ht
  obtain ⟨o3, X3, hM5, hop5, hX5, hA5⟩ := HM4.out.turn ht
  have he := ht.1
  subst he
  have HM5 := Lib.hid hM5
  have Hop5 : Hid (o3.hp = o.hp) := Lib.hid (hop5.trans Hop.out)
  clear ht hM5 hop5 hX5 hA5 HRec2 HL4 HP4
  go_wp2_with fail
  have hone := law_one sX w5
  unfold OnePost at hone
  refine hone.mono ?_
  rintro e w6 ⟨v6, rfl, hv6, hb6⟩
  have HM6 := Lib.hid (HM5.out.then hb6)
  have hget := head_get v6 labX w6 HM6.out.head hv6 szX (HT.out.below HM6.out.below h2) (Nat.le_trans h2 HM6.out.below.size)
  rw [live_get, Hop5.out] at hget
  unfold GetPost at hget
  have HGet := Lib.hid hget
  clear hv6 hb6 hone hget
  go_wp2_with fail
  refine HGet.out.mono ?_
  rintro e w7 ⟨v7, rfl, hv7, hb7⟩
  have HM7 := Lib.hid (HM6.out.then hb7)
  obtain ⟨A7, c7, rfl, -, -, -, -, hR7⟩ := hv7
  obtain ⟨b7, off7, rfl, n0, n1, n2⟩ := RdP.at_ (k := 0) hR7 (by simp)
  simp [ptX] at n0 n1 n2
  have hcnt := head_count w7 HM7.out.head (by simp [H2])
  unfold CountPost at hcnt
  rw [live_cnt.1, live_cnt.2, Hop5.out] at hcnt
  have HCnt := Lib.hid hcnt
  clear hb7 hR7 hcnt HGet
  simp only [List.length_cons, List.length_nil, Nat.zero_add, Nat.reduceAdd, Option.getD_some, Option.isSome_some] at *
  go_wp2_with fail
  refine HCnt.out.mono ?_
  rintro e w8 ⟨rfl, hb8⟩
  have k0 := later hb8 n0
  have k1 := later hb8 n1
  have k2 := later hb8 n2
  have hep := fun W => run_eql_pt W ⟨5, 0, 1⟩ ⟨5, 0, 1⟩
  have hgp := run_guard_pt
  have HB8 := Lib.hid (bthen HM7.out.below hb8)
  simp only [decide_true] at hep
  go_wp2_with fail
  go_ret
  exact ⟨rfl, HB8.out⟩
end Go.Proofs.YtbjglcdoekbloaaGreatDoor
