import Derived.Test.YtlhmdgaohonpbaaGreatDoorGSeA
import Derived.Test.YtlhmdgaohonpbaaGreatDoorGRf0
import Derived.Test.YtlhmdgaohonpbaaGreatDoorGPi
import Derived.Laws.IdiomRangeMap
import Derived.LoopN
set_option linter.unusedSimpArgs false
set_option linter.unusedVariables false
set_option linter.unusedSectionVars false
namespace Go.Proofs.YtlhmdgaohonpbaaGreatDoor
open Go.RowKit Go.Proofs.YtlhmdgaohonpbaaGreatDoor.MapRaw Go.ChangeMaps
structure SelEnv (w : World) (X : List Nat) (xb ab : Nat) (all : List (Int × List Lb)) (tb ib sb : Nat) (sv : Value) (al : List Ak) : Prop where
 set : w.heap[tb]? = some (.cells #[.pointer (some ⟨sb, 0, none⟩)] 87 (0, 0))
 ix : w.heap[ib]? = some (.cells #[.pointer (some ⟨xb, 0, none⟩)] 26 (0, 0))
 at_ : w.heap[sb]? = some (.cells #[sv] 115 (0, 0))
 pos : 0 < al.length
 asks : Slc 4 Ak.enc w (fun _ => True) sv al
 forms : ∀ x ∈ al, FormOk w (fun _ => True) x.m (.pointer x.a)
 am : MapAt w eU (evL w X) ab all
 cell : w.cell? ⟨xb, 1, none⟩ = some (.map (some ab))
 sz : ∀ p ∈ all, ∀ x ∈ p.2, x.v.size ≤ 1000000
theorem SelEnv.below {w w' : World} {X : List Nat} {xb ab : Nat} {all : List (Int × List Lb)} {tb ib sb : Nat} {sv : Value} {al : List Ak} (h : SelEnv w X xb ab all tb ib sb sv al) (hb : Below w.heap.size w w') : SelEnv w' X xb ab all tb ib sb sv al :=
 ⟨blk_below h.set hb, blk_below h.ix hb, blk_below h.at_ hb, h.pos, h.asks.below hb, fun x hx => (h.forms x hx).below hb, h.am.move (hb.block _ h.am.blk) (fun _ _ _ hv => hv.move hb.size (fun k hk _ => hb.block k hk) (fun _ _ h => h)), later hb h.cell, h.sz⟩
def TakePost (w : World) (ob base : Nat) (ks : List Int) (e : Ending) (w' : World) : Prop :=
 e = .returned (.tuple #[]) ∧ ∃ vo, w'.heap[ob]? = some (.cells #[vo] 36 (0, 0)) ∧ w'.ownsRow base 34 1 vo ks.length (ks.flatMap encU) ∧ Apart (fun k => k = ob ∨ base ≤ k) w w'
set_option maxRecDepth 100000 in
set_option maxHeartbeats 1000000 in
theorem sel_take {X : List Nat} {xb ab : Nat} {all : List (Int × List Lb)} {tb ib sb : Nat} {sv : Value} {al : List Ak} (w : World) (env : SelEnv w X xb ab all tb ib sb sv al) (ref : Int) (ks : List Int) (ob base : Nat) (vo : Value)
  (ho : w.heap[ob]? = some (.cells #[vo] 36 (0, 0))) (hown : w.ownsRow base 34 1 vo ks.length (ks.flatMap encU)) (hob : ob < base) (hbs : base ≤ w.heap.size) (hlen : ks.length ≤ 1000000) :
  Calls Tryz.prog 48 #[.int .u64 ref, .pointer (some ⟨tb, 0, none⟩), .pointer (some ⟨ib, 0, none⟩), .pointer (some ⟨ob, 0, none⟩)] w (TakePost w ob base (if passL (al.map Ak.m) ((mget all ref).getD []) = true then ks ++ [ref] else ks)) := by
 have c1 : w.cell? ⟨tb, 0, none⟩ = some (.pointer (some ⟨sb, 0, none⟩)) := by have := blk_cell env.set 0; simpa using this
 have c2 : w.cell? ⟨ib, 0, none⟩ = some (.pointer (some ⟨xb, 0, none⟩)) := by have := blk_cell env.ix 0; simpa using this
 have c3 := env.cell
 obtain ⟨es, c, hb1, hM⟩ := env.am
 obtain ⟨v, hv1, hv2, hv3, hv4⟩ := lookup_all keyU Tryz.underlying71 zeroLabels ab hM (a := ref) trivial (fun _ _ => trivial)
 have hS : SlL w (fun k => k ∉ X) v ((mget all ref).getD []) := by
  cases hg : mget all ref with
  | none => rw [hv3 hg]; exact Slc.nil _ _ _ _
  | some l => exact (hv4 l hg).1
 have hsz : ∀ x ∈ (mget all ref).getD [], x.v.size ≤ 1000000 := by
  cases hg : mget all ref with
  | none => intro x hx; simp at hx
  | some l => exact env.sz _ (mget_mem hg)
 have hmt := fun (W : World) (hW : Below w.heap.size w W) => set_match (D := fun _ => True) (D1 := fun _ => True) (D2 := fun k => k ∉ X) sv v al _ W (blk_below env.at_ hW) env.pos (env.asks.below hW) (fun x hx => (env.forms x hx).below hW) (hS.below hW) hsz
 have HMt := Lib.hid hmt
 have hrun := hv2 w.drew hb1
 unfold eU at hrun
 clear hv1 hv2 hv3 hv4 hM hb1 hS hsz hmt env
 generalize passL (al.map Ak.m) ((mget all ref).getD []) = pb at *
 have y1 : w.drew.cell? ⟨tb, 0, none⟩ = some (.pointer (some ⟨sb, 0, none⟩)) := c1
 have y2 : w.drew.cell? ⟨ib, 0, none⟩ = some (.pointer (some ⟨xb, 0, none⟩)) := c2
 have y3 : w.drew.cell? ⟨xb, 1, none⟩ = some (.map (some ab)) := c3
 have HO := Lib.hid ho
 have HOw := Lib.hid hown
 have HLn := Lib.hid hlen
 have HBs := Lib.hid hbs
 have HOb := Lib.hid hob
 clear ho hown hlen c1 c2 c3 hbs hob
 go_enter Tryz.func48, Tryz.ntmps48
 go_upto_region 0 with fail
 go_region_held3 (fun w' => w'.cell? ⟨tb, 0, none⟩ = some (.pointer (some ⟨sb, 0, none⟩)) ∧ w'.cell? ⟨ib, 0, none⟩ = some (.pointer (some ⟨xb, 0, none⟩)) ∧ w'.cell? ⟨xb, 1, none⟩ = some (.map (some ab))) (first | exact ⟨y1, y2, y3⟩ | exact ⟨later hb5 y1, later hb5 y2, later hb5 y3⟩)
  (first | (go_at_call 49; refine (HMt.out _ (bdrew (Below.refl _ _))).mono ?_; rintro e w5 ⟨rfl, hb5⟩))
 have HB5 : Hid (Below w.heap.size w w5) := Lib.hid (bthen (bdrew (Below.refl _ _)) hb5)
 clear y1 y2 y3 hrun hb5
 cases pb with
 | false =>
  go_wp2_with fail
  go_end0
  exact ⟨rfl, vo, blk_below HO.out HB5.out, own_below HOw.out HB5.out, below_apart HB5.out _⟩
 | true =>
  have HO5 := Lib.hid (blk_below HO.out HB5.out)
  have HOw5 := Lib.hid (own_below HOw.out HB5.out)
  have c5 : w5.cell? ⟨ob, 0, none⟩ = some vo := by have := blk_cell HO5.out 0; simpa using this
  have HBa : Hid (Below w5.heap.size w5 (w5.alloc (.cells #[.int .u64 ref] 34))) := Lib.hid (balloc (Below.refl _ _) _)
  have HOa := Lib.hid (own_below HOw5.out HBa.out)
  have HSrc : Hid (SrcAt (w5.alloc (.cells #[.int .u64 ref] 34)) (.slice (some ⟨w5.heap.size, 0, none⟩) 1 1) 1 1 [.int .u64 ref]) := Lib.hid (src_block (m := 1) (size := 1) (blk_new w5 (.cells #[.int .u64 ref] 34 (0, 0))) rfl (by intro u hu; simp at hu; subst hu; rfl) 1)
  go_wp2_with (at_builtin; refine wpList_app (w0 := w) base rfl _ _ 36 34 _ 1 8 1 [.int .u64 ref] rfl Tryz.underlying36 info_u64 rfl (by decide) (by decide) vo ks.length (ks.flatMap encU) ?hs ?hx HOa.out ((bthen HB5.out HBa.out).mono HBs.out) (by have := HBs.out; have := HB5.out.size; simp; omega) (by have := HLn.out; omega) ?_)
  case hs => rfl
  case hx => exact HSrc.out
  intro v3 w6 hO3 hB3 hg3 hat3
  obtain ⟨A3, c3, rfl⟩ := own_slice hO3
  have ho6 : w6.heap[ob]? = some (.cells #[vo] 36 (0, 0)) := (hB3.block ob HOb.out).trans HO.out
  have c6 : w6.cell? ⟨ob, 0, none⟩ = some vo := by have := blk_cell ho6 0; simpa using this
  have f6 : w6.frozen? ⟨ob, 0, none⟩ = false := free_blk ho6
  have HO6 := Lib.hid ho6
  have HO3 := Lib.hid hO3
  have HB3 := Lib.hid hB3
  clear ho6 hO3 hB3 hg3 hat3
  go_wp2_with fail
  go_end0
  refine ⟨rfl, .slice A3 (ks.length + 1) c3, ?_, ?_, ?_⟩
  ·have := setCell_blk (i := 0) (.slice A3 (ks.length + 1) c3) HO6.out; simpa using this
  ·have h3 : w6.ownsRow base 34 1 (.slice A3 (ks.length + 1) c3) (ks ++ [ref]).length ((ks ++ [ref]).flatMap encU) := by simpa [List.flatMap_append] using HO3.out
   exact ownsRow_move h3 (fun k hk => Below.heap_setCell _ _ _ _ (by have := ownsRow_blk h3 k hk; have := HOb.out; show k ≠ ob; omega))
  ·have hA : Apart (fun k => k = ob ∨ base ≤ k) w w6 := ⟨HB3.out.os, HB3.out.tape, HB3.out.output, HB3.out.size, fun k _ hn => HB3.out.block k (by omega)⟩
   exact hA.setC ⟨ob, 0, none⟩ (.inl (.inl rfl)) _
end Go.Proofs.YtlhmdgaohonpbaaGreatDoor

namespace Go.Proofs.YtlhmdgaohonpbaaGreatDoor
open Go.RowKit Go.Proofs.YtlhmdgaohonpbaaGreatDoor.MapRaw Go.ChangeMaps
def SelPost (w : World) (I : Ix) (ml : List Mt) (e : Ending) (w' : World) : Prop :=
 (readyE ml = 0 ∧ ∃ v, e = .returned (.tuple #[v, .int .i64 0]) ∧ SlU w' (fun k => w.heap.size ≤ k) v (selectF I ml) ∧ Below w.heap.size w w') ∨ (readyE ml ≠ 0 ∧ e = .returned (.tuple #[.slice none 0 0, .int .i64 (readyE ml)]) ∧ Below w.heap.size w w')
structure SelTo {ν : Type} (w2 : World) (ev : ν → Value → Prop) (b ob r base : Nat) (f : Int → Bool) (m : List (Int × ν)) (left : List (Int × ν)) (wr : World) : Prop where
 ex : ∃ vo ks, wr.heap[ob]? = some (.cells #[vo] 36 (0, 0)) ∧ wr.ownsRow base 34 1 vo ks.length (ks.flatMap encU) ∧ (ks ++ (left.map (·.1)).filter f).Perm ((m.map (·.1)).filter f)
 it : IterAt wr eU ev r b m left
 below : Below w2.heap.size w2 wr
 le : w2.heap.size ≤ ob ∧ ob < r ∧ r < base ∧ base ≤ wr.heap.size ∧ b < w2.heap.size
theorem SelTo.take {ν : Type} {w2 : World} {ev : ν → Value → Prop} {b ob r base : Nat} {f : Int → Bool} {m left left' : List (Int × ν)} {wr w' w4 : World} {ks : List Int} {v4 : Value} {p : Int × ν} (h : SelTo w2 ev b ob r base f m left wr) (hp : (ks ++ (left.map (·.1)).filter f).Perm ((m.map (·.1)).filter f)) (hpm : left.Perm (p :: left'))
  (hit : IterAt w' eU ev r b m left') (hg : wr.grownBy w' (some r)) (ho : w4.heap[ob]? = some (.cells #[v4] 36 (0, 0))) (hown : w4.ownsRow base 34 1 v4 (if f p.1 = true then ks ++ [p.1] else ks).length ((if f p.1 = true then ks ++ [p.1] else ks).flatMap encU)) (hA : Apart (fun k => k = ob ∨ base ≤ k) w' w4) : SelTo w2 ev b ob r base f m left' w4 := by
 have hle := h.le
 have hib := hit.blk
 refine ⟨⟨v4, _, ho, hown, ?_⟩, hit.move (hA.block _ hib.1 (by omega)) (hA.block _ hib.2 (by omega)) (fun _ _ _ h => h), ?_, ?_⟩
 ·refine List.Perm.trans ?_ hp
  have h2 : ((left.map (·.1)).filter f).Perm (((p :: left').map (·.1)).filter f) := (hpm.map _).filter _
  refine List.Perm.trans ?_ ((List.Perm.append_left ks h2).symm)
  rw [List.map_cons, List.filter_cons]
  by_cases hf : f p.1 = true
  ·rw [if_pos hf, if_pos hf]; simp
  ·rw [if_neg hf, if_neg hf]
 ·have h1 : Below w2.heap.size w2 w' := h.below.grown hg h.below.size (fun k hk => by cases hk; omega)
  exact ⟨hA.os.trans h1.os, hA.tape.trans h1.tape, hA.output.trans h1.output, Nat.le_trans h1.size hA.size, fun k hk => (hA.block k (Nat.lt_of_lt_of_le hk h1.size) (by omega)).trans (h1.block k hk)⟩
 ·have := hA.size; have := hg.size; omega
theorem forms_all {w : World} {D : Nat → Prop} {m : Mt} {fp : Value} (h : FormOk w D m fp) : FormOk w (fun _ => True) m fp := h.move (Nat.le_refl _) (fun _ _ _ => rfl) (fun _ _ _ => trivial)
theorem sel_sort {I : Ix} {ml : List Mt} {w wr : World} {ob base : Nat} {vo : Value} {ks : List Int} (ho : wr.heap[ob]? = some (.cells #[vo] 36 (0, 0))) (hown : wr.ownsRow base 34 1 vo ks.length (ks.flatMap encU)) (hp : ks.Perm (selL I ml)) (hb : Below w.heap.size w wr) (hob : w.heap.size ≤ base) (hne : ob < base) (hlen : I.all.length ≤ 1000000) :
  Calls Tryz.prog 51 #[vo] wr fun e w' => e = .returned (.tuple #[]) ∧ w'.cell? ⟨ob, 0, none⟩ = some vo ∧ SlU w' (fun k => w.heap.size ≤ k) vo (selectF I ml) ∧ Below w.heap.size w w' := by
 have hl : ks.length ≤ 1000000 := by
  rw [hp.length_eq]
  unfold selL
  rw [List.length_map]
  exact Nat.le_trans (List.length_filter_le _ _) hlen
 refine (sort_own wr hown rfl (by omega)).mono ?_
 rintro e w' ⟨rfl, h1, hg⟩
 have hk := ownsRow_blk hown
 have ho' : w'.heap[ob]? = some (.cells #[vo] 36 (0, 0)) := (hg.block ob (Array.getElem?_eq_some_iff.1 ho).1 (fun e => by have := hk ob e.symm; omega)).trans ho
 refine ⟨rfl, by have := blk_cell ho' 0; simpa using this, ?_, hb.grown hg hb.size (fun k e => by have := hk k e; omega)⟩
 have hs := own_slc encU_len (by rw [sorted_len]) h1
 rw [sorted_eq hp] at hs
 exact hs.mono (fun k _ h => Nat.le_trans hob h)
theorem keys_none {w : World} {hb : Nat} {H : HasL} {inner : List ((ByteArray × ByteArray) × Nat)} (h : HasAt w hb H inner) {a : ByteArray × ByteArray} (ha : mget inner a = none) : keysH H a = [] := by
 unfold keysH
 rcases keys_get inner H a h.keys with ⟨_, h2⟩ | ⟨x, x', i, h1, _⟩
 ·rw [h2]; rfl
 ·rw [ha] at h1; cases h1
set_option maxRecDepth 100000 in
set_option maxHeartbeats 4000000 in
theorem ix_select {D : Nat → Prop} {X : List Nat} {xb : Nat} {I : Ix} {ab rb hb : Nat} {inner : List ((ByteArray × ByteArray) × Nat)} (v : Value) (ml : List Mt) (w : World) (h : IxAt w X xb I ab rb hb inner) (hI : IxOk I) (hlen : I.all.length ≤ 1000000) (hsz : ∀ p ∈ I.all, ∀ x ∈ p.2, x.v.size ≤ 1000000)
  (hv : Slc 3 Mt.enc w D v ml) (hz : ∀ x ∈ ml, SzM x) (hT : Tabs w) (h2 : 2 ≤ w.heap.size) :
  Calls Tryz.prog 17 #[.pointer (some ⟨xb, 0, none⟩), v] w (SelPost w I ml) := by
 have hmf : ∀ (fn : Fn) (first cap : Array Value) (w : World), (Instr.makeFunc fn first cap).run Tryz.prog w = .ok (.func fn first cap) w := fun _ _ _ _ => rfl
 obtain ⟨W0, hW0⟩ : ∃ W0, W0 = w.alloc (.cells #[.pointer (some ⟨xb, 0, none⟩)] 26) := ⟨_, rfl⟩
 have hb0 : Below w.heap.size w W0 := by rw [hW0]; exact balloc (Below.refl _ _) _
 have hs0 : W0.heap.size = w.heap.size + 1 := by rw [hW0]; simp
 have hx0 : W0.heap[w.heap.size]? = some (.cells #[.pointer (some ⟨xb, 0, none⟩)] 26 (0, 0)) := by rw [hW0]; exact alloc_at w _ rfl
 have hI0 := h.below hb0
 have c0 := blk_cell hI0.cells 0
 simp at c0
 have cx : W0.cell? ⟨w.heap.size, 0, none⟩ = some (.pointer (some ⟨xb, 0, none⟩)) := by have := blk_cell hx0 0; simpa using this
 have hnew := match_new v ml W0 (hv.below hb0) hz (hT.below hb0 h2) (Nat.le_trans h2 hb0.size)
 have HN := Lib.hid hnew
 have HI0 := Lib.hid hI0
 have HI := Lib.hid h
 have HV := Lib.hid hv
 have HB0 := Lib.hid hb0
 have HX0 := Lib.hid hx0
 have HS0 := Lib.hid hs0
 have HOk := Lib.hid hI
 have HLen := Lib.hid hlen
 have HSz := Lib.hid hsz
 obtain ⟨A, cp, rfl, -⟩ := hv
 generalize ml.length = nl at *
 clear h hI hnew hI0 hb0 hx0 hs0 hlen hsz hz hT
 go_enter Tryz.func17, Tryz.ntmps17
 go_wp2_with fail
 rw [← hW0]
 clear hW0
 refine (ix_is _ _ c0).mono ?_
 rintro e w' ⟨rfl, rfl⟩
 go_wp2_with fail
 refine HN.out.mono ?_
 rintro e w1 (⟨h0, sb, sv, al, rfl, hsb, hset, hal, hA⟩ | ⟨h0, rfl, hb⟩)
 ·obtain ⟨W2, hW2⟩ : ∃ W2, W2 = w1.alloc (.cells #[.pointer (some ⟨sb, 0, none⟩)] 87) := ⟨_, rfl⟩
  have hB12 : Below w1.heap.size w1 W2 := by rw [hW2]; exact balloc (Below.refl _ _) _
  have hB02 : Below W0.heap.size W0 W2 := bthen hA.below hB12
  have hB2 : Below w.heap.size w W2 := bthen HB0.out hB02
  have ht : W2.heap[w1.heap.size]? = some (.cells #[.pointer (some ⟨sb, 0, none⟩)] 87 (0, 0)) := by rw [hW2]; exact alloc_at w1 _ rfl
  have hpos : 0 < al.length := by
   rcases al with _ | ⟨x, al⟩
   ·simp at hal; subst hal; simp [readyE, errM, strictF] at h0
   ·simp
  have hA2 := hA.then hB12
  have hI2 := HI.out.below hB2
  have henv : SelEnv W2 X xb ab I.all w1.heap.size w.heap.size sb sv al := ⟨ht, blk_below HX0.out hB02, blk_below hset hB12, hpos, (own_slc ak_len rfl hA2.own).mono (fun _ _ _ => trivial), fun x hx => forms_all (hA2.forms x hx), hI2.all, by have := blk_cell hI2.cells 1; simpa using this, HSz.out⟩
  have cx2 := later hB02 cx
  have HEnv := Lib.hid henv
  have HB2 := Lib.hid hB2
  have H0 := Lib.hid h0
  have HAl := Lib.hid hal
  have HI2 := Lib.hid hI2
  have HW2 : Hid (W2.heap.size = w1.heap.size + 1) := Lib.hid (by rw [hW2]; simp)
  clear hA hA2 hset hsb henv hB12 hB02 hB2 ht hpos h0 hal hI2
  go_upto_region 8 with fail
  rw [← hW2, ← HW2.out]
  clear hW2
  obtain ⟨W3, hW3⟩ : ∃ W3, W3 = W2.alloc (.cells #[.slice none 0 0] 36) := ⟨_, rfl⟩
  have hB23 : Below W2.heap.size W2 W3 := by rw [hW3]; exact balloc (Below.refl _ _) _
  have hs3 : W3.heap.size = W2.heap.size + 1 := by rw [hW3]; simp
  have ho3 : W3.heap[W2.heap.size]? = some (.cells #[.slice none 0 0] 36 (0, 0)) := by rw [hW3]; exact blk_new W2 _
  have hnr := ix_narrow _ ml W3 (HI2.out.below hB23) (HV.out.below (bthen HB2.out hB23))
  unfold NarrowPost at hnr
  have HNr := Lib.hid hnr
  have HB23 := Lib.hid hB23
  have HS3 := Lib.hid hs3
  have HO3 := Lib.hid ho3
  have cx3 := later hB23 cx2
  rw [← hW3]
  clear hW3 hnr hB23 hs3 ho3 cx cx2 c0
  go_wp2_with fail
  refine HNr.out.mono ?_
  rintro e w4 ⟨rfl, hb4⟩
  have hB24 : Below W2.heap.size W2 w4 := bthen HB23.out hb4
  have hs4 : W2.heap.size + 1 ≤ w4.heap.size := by have := hb4.size; have := HS3.out; omega
  have ho4 := blk_below HO3.out hb4
  have cx4 := later hb4 cx3
  have HB24 := Lib.hid hB24
  have HS4 := Lib.hid hs4
  have HO4 := Lib.hid ho4
  clear hb4 hB24 hs4 ho4 cx3
  have hI4 := HI2.out.below HB24.out
  cases haim : aimF ml with
  | none =>
   have ci := blk_cell hI4.cells 1
   simp at ci
   obtain ⟨es, cc, hbk, hM⟩ := HI.out.all
   have hblt : ab < w.heap.size := (Array.getElem?_eq_some_iff.1 hbk).1
   have hbk4 : w4.heap[ab]? = some (.map es cc) := blk_below (blk_below hbk HB2.out) HB24.out
   have HM := Lib.hid hM
   have HBk := Lib.hid hbk4
   have HBlt := Lib.hid hblt
   clear hM hbk hbk4 hI4 hblt
   go_wp2_with (refine wpList_range_raw rfl _ 71 _ _ rfl Tryz.underlying71 ab HBk.out HM.out rfl ?_)
   intro w5 hit hg5 hs5
   have HStart : Hid (SelTo W2 (evL w X) ab W2.heap.size w4.heap.size (w4.heap.size + 1) (takeB I ml) I.all I.all w5) := Lib.hid
    ⟨⟨_, [], (hg5.block _ (by have := HS4.out; omega) (fun e => by cases e)).trans HO4.out, ⟨rfl, .inl ⟨rfl, rfl⟩⟩, by simp⟩, hit, HB24.out.grown hg5 HB24.out.size (fun k hk => by cases hk), by have := HS4.out; have := HBlt.out; have := HB2.out.size; omega⟩
   clear hit hg5 hs5
   go_wp2_with fail
   go_loopg [] (I.all.length) (fun g wr => ∃ left, left.length ≤ g ∧ SelTo W2 (evL w X) ab W2.heap.size w4.heap.size (w4.heap.size + 1) (takeB I ml) I.all left wr)
   case atStart => exact ⟨I.all, Nat.le_refl _, HStart.out⟩
   case round =>
    obtain ⟨left, hgk, hR⟩ := hrel
    have HR := Lib.hid hR
    clear hR
    go_wp2_with (refine wpList_next_entry rfl _ rfl w4.heap.size ab HR.out.it rfl ?hend ?hstep)
    case hend =>
     intro h0
     subst h0
     obtain ⟨vo, ks, ho, hown, hp⟩ := HR.out.ex
     simp only [List.map_nil, List.filter_nil, List.append_nil] at hp
     have hle := HR.out.le
     have hcal := sel_sort (I := I) (ml := ml) (w := w) ho hown (hp.trans (sel_all HOk.out.an ml)) (bthen HB2.out HR.out.below) (by have := HB2.out.size; omega) (by omega) HLen.out
     have c8 : wr.cell? ⟨W2.heap.size, 0, none⟩ = some vo := by have := blk_cell ho 0; simpa using this
     have HC := Lib.hid hcal
     clear ho hown hp hle hcal
     go_wp2_with fail
     refine HC.out.mono ?_
     rintro e w9 ⟨rfl, c9, hs9, hb9⟩
     have HS9 := Lib.hid hs9
     have HB9 := Lib.hid hb9
     clear hs9 hb9 c8
     go_wp2_with fail
     go_ret2
     exact .inl ⟨H0.out, _, rfl, HS9.out, HB9.out⟩
    case hstep =>
     intro pk pl left' v' w' hpm hev hit' hg' hs' hentry
     obtain ⟨vo, ks, ho, hown, hp⟩ := HR.out.ex
     have hle := HR.out.le
     have hB' : Below W2.heap.size W2 w' := HR.out.below.grown hg' HR.out.below.size (fun k hk => by cases hk; omega)
     have henv := HEnv.out.below hB'
     have ho' : w'.heap[W2.heap.size]? = some (.cells #[vo] 36 (0, 0)) := (hg'.block _ (Array.getElem?_eq_some_iff.1 ho).1 (fun e => by injection e with e; omega)).trans ho
     have hown' := ownsRow_move hown (w' := w') (fun k hk => hg'.block k (ownsRow_blk hown k hk).2 (fun e => by cases e; have := ownsRow_blk hown _ hk; omega))
     have hkl : ks.length ≤ 1000000 := by
      have h1 := hp.length_eq
      have h3 := ((sel_all HOk.out.an ml)).length_eq
      have h4 : (selL I ml).length ≤ I.all.length := by unfold selL; rw [List.length_map]; exact List.length_filter_le _ _
      have := HLen.out
      rw [List.length_append] at h1
      omega
     have htk := sel_take w' henv pk ks W2.heap.size (w4.heap.size + 1) vo ho' hown' (by omega) (by omega) hkl
     rw [HAl.out] at htk
     have HTk := Lib.hid htk
     have HP := Lib.hid hp
     have HPm := Lib.hid hpm
     have HIt := Lib.hid hit'
     have HG := Lib.hid hg'
     clear hle hB' henv ho ho' hown hown' hkl htk hp hpm hit' hg' hev
     go_wp2_with fail
     refine HTk.out.mono ?_
     rintro e w5 ⟨rfl, v5, ho5, hown5, hA5⟩
     have hnx : SelTo W2 (evL w X) ab W2.heap.size w4.heap.size (w4.heap.size + 1) (takeB I ml) I.all left' w5 := HR.out.take (p := (pk, pl)) HP.out HPm.out HIt.out HG.out ho5 hown5 hA5
     have HNx := Lib.hid hnx
     have hll : left'.length < left.length := by have := HPm.out.length_eq; simp at this; omega
     clear ho5 hown5 hA5 hnx
     go_wp2_with fail
     go_roundg (left'.length)
     case measure => omega
     case rel => exact ⟨left', Nat.le_refl _, HNx.out⟩
  | some a =>
   cases hin : mget inner a with
   | none =>
    have hk0 := keys_none hI4.has hin
    have hp0 := sel_aim HOk.out haim
    rw [hk0] at hp0
    have hrn := fun (W : World) => run_range_nilMap (P := Tryz.prog) W 85 _ _ Tryz.underlying85
    have hnn := fun (W : World) (ty : TypeId) => run_next_nilMap (P := Tryz.prog) W ty 0 0 #[]
    have hB5 : Below w4.heap.size w4 (w4.alloc (.mapIter none 0 #[] 0)) := balloc (Below.refl _ _) _
    have ho5 := blk_below HO4.out hB5
    have c8 : (w4.alloc (.mapIter none 0 #[] 0)).cell? ⟨W2.heap.size, 0, none⟩ = some (.slice none 0 0) := by have := blk_cell ho5 0; simpa using this
    have hcal := sel_sort (I := I) (ml := ml) (w := w) (base := w4.heap.size) (ks := []) ho5 ⟨rfl, .inl ⟨rfl, rfl⟩⟩ (by simpa using hp0) (bthen (bthen HB2.out HB24.out) hB5) (by have := HB2.out.size; have := HB24.out.size; omega) (by have := HS4.out; omega) HLen.out
    have HC := Lib.hid hcal
    clear hcal ho5 hB5 hk0 hp0 hI4
    go_wp2_with fail
    refine wp_loop_rounds 1 ?_
    rw [rounds_succ]
    go_wp2_with fail
    refine HC.out.mono ?_
    rintro e w9 ⟨rfl, c9, hs9, hb9⟩
    have HS9 := Lib.hid hs9
    have HB9 := Lib.hid hb9
    clear hs9 hb9 c8
    go_wp2_with fail
    go_ret2
    exact .inl ⟨H0.out, _, rfl, HS9.out, HB9.out⟩
   | some bm =>
    have HAim := Lib.hid haim
    obtain ⟨es, cc, hbk, hM⟩ := has_inner HI.out.has hin
    have hblt : bm < w.heap.size := (Array.getElem?_eq_some_iff.1 hbk).1
    have hbk4 : w4.heap[bm]? = some (.map es cc) := blk_below (blk_below hbk HB2.out) HB24.out
    have HM := Lib.hid hM
    have HBk := Lib.hid hbk4
    have HBlt := Lib.hid hblt
    clear hM hbk hbk4 hI4 hblt
    go_wp2_with (refine wpList_range_raw rfl _ 85 _ _ rfl Tryz.underlying85 bm HBk.out HM.out rfl ?_)
    intro w5 hit hg5 hs5
    have HStart : Hid (SelTo W2 evN bm W2.heap.size w4.heap.size (w4.heap.size + 1) (takeB I ml) ((mget I.has a).getD []) ((mget I.has a).getD []) w5) := Lib.hid
     ⟨⟨_, [], (hg5.block _ (by have := HS4.out; omega) (fun e => by cases e)).trans HO4.out, ⟨rfl, .inl ⟨rfl, rfl⟩⟩, by simp⟩, hit, HB24.out.grown hg5 HB24.out.size (fun k hk => by cases hk), by have := HS4.out; have := HBlt.out; have := HB2.out.size; omega⟩
    clear hit hg5 hs5 haim
    go_wp2_with fail
    go_loopg [] (((mget I.has a).getD []).length) (fun g wr => ∃ left, left.length ≤ g ∧ SelTo W2 evN bm W2.heap.size w4.heap.size (w4.heap.size + 1) (takeB I ml) ((mget I.has a).getD []) left wr)
    case atStart => exact ⟨((mget I.has a).getD []), Nat.le_refl _, HStart.out⟩
    case round =>
     obtain ⟨left, hgk, hR⟩ := hrel
     have HR := Lib.hid hR
     clear hR
     go_wp2_with (refine wpList_next_entry rfl _ rfl w4.heap.size bm HR.out.it rfl ?hend ?hstep)
     case hend =>
      intro h0
      subst h0
      obtain ⟨vo, ks, ho, hown, hp⟩ := HR.out.ex
      simp only [List.map_nil, List.filter_nil, List.append_nil] at hp
      have hle := HR.out.le
      have hcal := sel_sort (I := I) (ml := ml) (w := w) ho hown (hp.trans (sel_aim HOk.out HAim.out)) (bthen HB2.out HR.out.below) (by have := HB2.out.size; omega) (by omega) HLen.out
      have c8 : wr.cell? ⟨W2.heap.size, 0, none⟩ = some vo := by have := blk_cell ho 0; simpa using this
      have HC := Lib.hid hcal
      clear ho hown hp hle hcal
      go_wp2_with fail
      refine HC.out.mono ?_
      rintro e w9 ⟨rfl, c9, hs9, hb9⟩
      have HS9 := Lib.hid hs9
      have HB9 := Lib.hid hb9
      clear hs9 hb9 c8
      go_wp2_with fail
      go_ret2
      exact .inl ⟨H0.out, _, rfl, HS9.out, HB9.out⟩
     case hstep =>
      intro pk pl left' v' w' hpm hev hit' hg' hs' hentry
      obtain ⟨vo, ks, ho, hown, hp⟩ := HR.out.ex
      have hle := HR.out.le
      have hB' : Below W2.heap.size W2 w' := HR.out.below.grown hg' HR.out.below.size (fun k hk => by cases hk; omega)
      have henv := HEnv.out.below hB'
      have ho' : w'.heap[W2.heap.size]? = some (.cells #[vo] 36 (0, 0)) := (hg'.block _ (Array.getElem?_eq_some_iff.1 ho).1 (fun e => by injection e with e; omega)).trans ho
      have hown' := ownsRow_move hown (w' := w') (fun k hk => hg'.block k (ownsRow_blk hown k hk).2 (fun e => by cases e; have := ownsRow_blk hown _ hk; omega))
      have hkl : ks.length ≤ 1000000 := by
       have h1 := hp.length_eq
       have h3 : (((((mget I.has a).getD [])).map (·.1)).filter (takeB I ml)).length = (selL I ml).length := (sel_aim HOk.out HAim.out).length_eq
       have h4 : (selL I ml).length ≤ I.all.length := by unfold selL; rw [List.length_map]; exact List.length_filter_le _ _
       have := HLen.out
       rw [List.length_append] at h1
       omega
      have htk := sel_take w' henv pk ks W2.heap.size (w4.heap.size + 1) vo ho' hown' (by omega) (by omega) hkl
      rw [HAl.out] at htk
      have HTk := Lib.hid htk
      have HP := Lib.hid hp
      have HPm := Lib.hid hpm
      have HIt := Lib.hid hit'
      have HG := Lib.hid hg'
      clear hle hB' henv ho ho' hown hown' hkl htk hp hpm hit' hg' hev
      go_wp2_with fail
      refine HTk.out.mono ?_
      rintro e w5 ⟨rfl, v5, ho5, hown5, hA5⟩
      have hnx : SelTo W2 evN bm W2.heap.size w4.heap.size (w4.heap.size + 1) (takeB I ml) ((mget I.has a).getD []) left' w5 := HR.out.take (p := (pk, pl)) HP.out HPm.out HIt.out HG.out ho5 hown5 hA5
      have HNx := Lib.hid hnx
      have hll : left'.length < left.length := by have := HPm.out.length_eq; simp at this; omega
      clear ho5 hown5 hA5 hnx
      go_wp2_with fail
      go_roundg (left'.length)
      case measure => omega
      case rel => exact ⟨left', Nat.le_refl _, HNx.out⟩
 ·have H0 := Lib.hid h0
  have HB := Lib.hid (bthen HB0.out hb)
  have e0 : (readyE ml != 0) = true := by simpa using h0
  have hfin : SelPost w I ml (.returned (.tuple #[.slice none 0 0, .int .i64 (readyE ml)])) (w1.alloc (.cells #[.pointer none] 87)) := .inr ⟨h0, rfl, bthen (bthen HB0.out hb) (balloc (Below.refl _ _) _)⟩
  have HFin := Lib.hid hfin
  generalize readyE ml = re at *
  clear hb h0 hfin
  go_wp2_with fail
  go_ret2
  exact HFin.out
end Go.Proofs.YtlhmdgaohonpbaaGreatDoor
