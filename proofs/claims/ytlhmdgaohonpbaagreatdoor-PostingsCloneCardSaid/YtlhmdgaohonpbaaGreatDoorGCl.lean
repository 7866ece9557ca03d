import Derived.Test.YtlhmdgaohonpbaaGreatDoorGSl
import Derived.Test.YtlhmdgaohonpbaaGreatDoorGLaB
import Derived.Test.YtlhmdgaohonpbaaGreatDoorGIx
import Derived.Test.YtlhmdgaohonpbaaGreatDoorGDz
set_option linter.unusedSimpArgs false
set_option linter.unusedVariables false
set_option linter.unusedSectionVars false
namespace Go.Proofs.YtlhmdgaohonpbaaGreatDoor
open Go.RowKit Go.Proofs.YtlhmdgaohonpbaaGreatDoor.MapRaw Go.ChangeMaps
theorem ix_wide {w : World} {X X2 : List Nat} {xb ab rb hb : Nat} (h : IxAt w X xb ⟨[], [], []⟩ ab rb hb []) (hX : ∀ k ∈ X, k ∈ X2) (hlt : ∀ k ∈ X2, k < w.heap.size) : IxAt w X2 xb ⟨[], [], []⟩ ab rb hb [] := by
 obtain ⟨es, c, hb2, hm⟩ := h.all
 exact ⟨h.cells, ⟨es, c, hb2, hm.imp (fun p hp => by simp at hp)⟩, h.refs, h.has, fun k hk => hX k (h.sub k hk), h.nd, hlt⟩
theorem right_szl {l : List Lb} (h : rightF l = 0) : SzL l := fun x hx => by
 obtain ⟨h1, h2, -⟩ := (right_ok h).2 x hx
 unfold namedF at h1
 unfold valuedF at h2
 simp only [Bool.and_eq_true, decide_eq_true_eq] at h1 h2
 simp only [maxLen]
 omega
theorem mget_perm {a b : List (Int × List Lb)} (ha : (a.map (·.1)).Nodup) (hb : (b.map (·.1)).Nodup) (h : a.Perm b) (r : Int) : mget a r = mget b r := by
 cases hr : mget b r with
 | some l => exact mget_of_mem ha (h.mem_iff.2 (mget_mem hr))
 | none =>
  cases ht : mget a r with
  | none => rfl
  | some l =>
   have := mget_of_mem hb (h.mem_iff.1 (mget_mem ht))
   simp only at this
   rw [hr] at this; cases this
structure CloTo (w : World) (X : List Nat) (ab r cb : Nat) (I : Ix) (left : List (Int × List Lb)) (wr : World) : Prop where
 ex : ∃ J X' ab' rb' hb' inner', IxAt wr X' cb J ab' rb' hb' inner' ∧ IxOk J ∧ (J.all ++ left).Perm I.all ∧ (∀ k ∈ X', k ∈ X ∨ w.heap.size ≤ k) ∧ r ∈ X' ∧ r ∉ [ab', rb', hb'] ++ inner'.map (·.2) ∧ cb ∉ X' ∧ (∀ k ∈ X, k ∈ X') ∧ (∀ k ∈ [ab', rb', hb'] ++ inner'.map (·.2), w.heap.size ≤ k) ∧ w.heap.size ≤ r
 it : IterAt wr eU (evL w X) r ab I.all left
 below : Below w.heap.size w wr
 cn : w.heap.size ≤ cb ∧ ab < w.heap.size
def ClonIx (w : World) (X : List Nat) (I : Ix) (e : Ending) (w' : World) : Prop := ∃ cb J X' ab' rb' hb' inner', e = .returned (.pointer (some ⟨cb, 0, none⟩)) ∧ IxAt w' X' cb J ab' rb' hb' inner' ∧ IxOk J ∧ (∀ r, mget J.all r = mget I.all r) ∧ J.all.length = I.all.length ∧ (∀ k ∈ X, k ∈ X') ∧ (∀ k ∈ [ab', rb', hb'] ++ inner'.map (·.2), w.heap.size ≤ k) ∧ w.heap.size ≤ cb ∧ cb ∉ X' ∧ Below w.heap.size w w'
theorem CloTo.done {w : World} {X : List Nat} {ab r cb : Nat} {I : Ix} {wr : World} (hI : IxOk I) (h : CloTo w X ab r cb I [] wr) : ClonIx w X I (.returned (.pointer (some ⟨cb, 0, none⟩))) wr := by
 obtain ⟨J, X', ab', rb', hb', inner', h1, h2, h3, h4, h5, h6, h7, h8, h9, h10⟩ := h.ex
 rw [List.append_nil] at h3
 exact ⟨cb, J, X', ab', rb', hb', inner', rfl, h1, h2, mget_perm h2.an hI.an h3, h3.length_eq, h8, h9, h.cn.1, h7, h.below⟩
theorem clo_err {I J : Ix} (hI : IxOk I) (hJ : IxOk J) {left left' : List (Int × List Lb)} {p : Int × List Lb} (hp : (J.all ++ left).Perm I.all) (hpm : left.Perm (p :: left')) (hlen : I.all.length ≤ 1000) : addErr J p.1 p.2 = 0 ∧ rightF p.2 = 0 := by
 have hmem : p ∈ I.all := hp.mem_iff.1 (List.mem_append_right _ (hpm.mem_iff.2 (List.mem_cons_self ..)))
 have hget := mget_of_mem hI.an hmem
 have hr := hI.right _ _ hget
 have hno : mget J.all p.1 = none := by
  cases hg : mget J.all p.1 with
  | none => rfl
  | some l =>
   exfalso
   have h1 : (((J.all ++ left)).map (·.1)).Nodup := (hp.map _).nodup_iff.2 hI.an
   rw [List.map_append, List.nodup_append] at h1
   exact h1.2.2 p.1 (List.mem_map.2 ⟨_, mget_mem hg, rfl⟩) p.1 (List.mem_map.2 ⟨p, hpm.mem_iff.2 (List.mem_cons_self ..), rfl⟩) rfl
 have hnr : mget J.refs (printF p.2) = none := by
  cases hg : mget J.refs (printF p.2) with
  | none => rfl
  | some r =>
   exfalso
   obtain ⟨l, h1, h2⟩ := hJ.ref _ _ hg
   have h3 := print_inj (hJ.right _ _ h1) hr h2
   have h4 : (r, l) ∈ I.all := hp.mem_iff.1 (List.mem_append_left _ (mget_mem h1))
   have h5 := hI.lab _ _ (mget_of_mem hI.an h4)
   have h6 := hI.lab _ _ hget
   simp only at h5
   rw [h3, h6] at h5
   injection h5 with h5
   rw [← h5, hno] at h1; cases h1
 have hle : J.all.length ≤ 1000 := by
  have := hp.length_eq
  rw [List.length_append] at this
  omega
 refine ⟨?_, hr⟩
 unfold addErr
 rw [if_neg (by simp [hr]), hno, hnr, if_neg (by simp), if_neg (by omega)]
theorem CloTo.turn {w : World} {X : List Nat} {ab r cb : Nat} {I : Ix} {left left' : List (Int × List Lb)} {wr w' : World} {p : Int × List Lb} {v : Value} (hI : IxOk I) (hlen : I.all.length ≤ 1000) (hT : Tabs w) (h2 : 2 ≤ w.heap.size) (h : CloTo w X ab r cb I left wr) (hpm : left.Perm (p :: left')) (hev : evL w X p.2 v) (hit : IterAt w' eU (evL w X) r ab I.all left') (hg : wr.grownBy w' (some r)) :
  Calls Tryz.prog 15 #[.pointer (some ⟨cb, 0, none⟩), .int .u64 p.1, v] w' fun e w2 => (∃ x, e = .returned (.int .i64 x)) ∧ CloTo w X ab r cb I left' w2 := by
 obtain ⟨J, X', ab', rb', hb', inner', h1, hJ, h3, h4, h5, h6, h7, h8, h9, hrw⟩ := h.ex
 have hb1 : Below w.heap.size w w' := h.below.grown hg h.below.size (fun k hk => by cases hk; exact hrw)
 have hx1 : IxAt w' X' cb J ab' rb' hb' inner' := h1.move hg.size (fun k hk hk2 => hg.block k hk (fun e => by
  injection e with e
  subst e
  rcases hk2 with hk2 | hk2 | hk2
  ·exact hk2 h5
  ·exact h7 (hk2 ▸ h5)
  ·exact h6 hk2)) (fun _ _ h => h) (fun _ h => h) (fun k hk => Nat.lt_of_lt_of_le (h1.lt k hk) hg.size)
 obtain ⟨herr, hr⟩ := clo_err hI hJ h3 hpm hlen
 have hv : SlL w' (fun k => k ∉ X') v p.2 := ((Slc.mono (D' := fun k => k < w.heap.size ∧ k ∉ X) hev.1 (fun k hk hX => ⟨hk, hX⟩)).below hb1).mono (fun k _ hk hX => (h4 k hX).elim hk.2 (fun g => by omega))
 refine (ix_add p.1 v p.2 w' hx1 h7 hv (right_szl hr) (hT.below hb1 h2) (Nat.le_trans h2 hb1.size) herr).mono ?_
 rintro e w2 ⟨rfl, inner2, X2, g1, g2, g3, g4, hA⟩
 have hown := h9
 have hrlt : r < w'.heap.size := hit.blk.2
 refine ⟨⟨0, rfl⟩, ⟨⟨addI J p.1 p.2, X2, ab', rb', hb', inner2, g1, hJ.add hr (add_all10 herr).2.1 (add_all10 herr).2.2.1, ?_, fun k hk => (g3 k hk).elim (h4 k) (fun g => .inr (Nat.le_trans hb1.size g)), g2 r h5, fun hm => ?_, hx1.xbX h7 g3, fun k hk => g2 k (h8 k hk), fun k hk => ?_, hrw⟩, ?_, apart_below hb1 hA (fun k hk => hown k hk), h.cn⟩⟩
 ·rw [(add_all10 herr).2.2.2.1, List.append_assoc]
  exact ((List.Perm.append_left J.all hpm).symm.trans h3)
 ·rcases List.mem_append.1 hm with hm | hm
  ·exact h6 (List.mem_append_left _ hm)
  ·rcases g4 r hm with hm | hm
   ·exact h6 (List.mem_append_right _ hm)
   ·omega
 ·rcases List.mem_append.1 hk with hk | hk
  ·exact h9 k (List.mem_append_left _ hk)
  ·rcases g4 k hk with hk | hk
   ·exact h9 k (List.mem_append_right _ hk)
   ·exact Nat.le_trans hb1.size hk
 ·exact hit.move (hA.block ab hit.blk.1 (fun hk => by have := hown ab hk; have := h.cn.2; omega)) (hA.block r hrlt h6) (fun _ _ _ h => h)
set_option maxRecDepth 100000 in
set_option maxHeartbeats 2000000 in
theorem ix_clone {X : List Nat} {xb : Nat} {I : Ix} {ab rb hb : Nat} {inner : List ((ByteArray × ByteArray) × Nat)} (w : World) (h : IxAt w X xb I ab rb hb inner) (hI : IxOk I) (hlen : I.all.length ≤ 1000) (hT : Tabs w) (h2 : 2 ≤ w.heap.size) :
  Calls Tryz.prog 38 #[.pointer (some ⟨xb, 0, none⟩)] w (ClonIx w X I) := by
 have c0 := blk_cell h.cells 0
 have c1 := blk_cell h.cells 1
 simp at c0 c1
 obtain ⟨es, cc, hbk, hM⟩ := h.all
 have HTurn := Lib.hid (fun (r cb : Nat) (left left' : List (Int × List Lb)) (wr w' : World) (p : Int × List Lb) (v : Value) (hC : CloTo w X ab r cb I left wr) (hpm : left.Perm (p :: left')) (hev : evL w X p.2 v) (hit : IterAt w' eU (evL w X) r ab I.all left') (hg : wr.grownBy w' (some r)) => CloTo.turn hI hlen hT h2 hC hpm hev hit hg)
 have HOk := Lib.hid hI
 have HBk := Lib.hid hbk
 have HM := Lib.hid hM
 have HLen := Lib.hid hlen
 have HXl := Lib.hid h.lt
 clear h hbk hM hI hlen hT h2
 go_enter Tryz.func38, Tryz.ntmps38
 go_wp2_with fail
 refine (ix_is _ _ c0).mono ?_
 rintro e w' ⟨rfl, hww⟩
 subst hww
 go_wp2_with fail
 refine (postings_new w).mono ?_
 rintro e w4 ⟨cb, ab', rb', hb', rfl, hix, ⟨n1, n2, n3, n4, n5, n6, n7, n8⟩, hb1⟩
 have d1 := later hb1 c1
 have HBk4 := Lib.hid (blk_below HBk.out hb1)
 have HB1 := Lib.hid hb1
 have HIx := Lib.hid hix
 have HN : Hid (w.heap.size ≤ ab' ∧ w.heap.size ≤ rb' ∧ w.heap.size ≤ hb' ∧ w.heap.size ≤ cb ∧ cb ≠ ab' ∧ cb ≠ rb' ∧ cb ≠ hb' ∧ cb < w4.heap.size) := Lib.hid ⟨n1, n2, n3, n4, n5, n6, n7, n8⟩
 have HAb : Hid (ab < w.heap.size) := Lib.hid (Array.getElem?_eq_some_iff.1 HBk.out).1
 clear hix n1 n2 n3 n4 n5 n6 n7 n8 hb1 c0 c1
 go_wp2_with (refine wpList_range_raw rfl _ 71 _ _ rfl Tryz.underlying71 ab HBk4.out HM.out rfl ?_)
 intro w5 hit hg5 hs5
 have HStart : Hid (CloTo w X ab w4.heap.size cb I I.all w5) := Lib.hid (by
  have hn := HN.out
  have hlt := HIx.out.lt
  have hw5 : IxAt w5 [ab', rb', hb'] cb ⟨[], [], []⟩ ab' rb' hb' [] := HIx.out.move (by omega) (fun k hk _ => hg5.block k hk (fun e => by cases e)) (fun _ _ h => h) (fun _ h => h) (fun k hk => by have := hlt k hk; omega)
  have hsz := HB1.out.size
  refine ⟨⟨ix0, ab' :: rb' :: hb' :: w4.heap.size :: X, ab', rb', hb', [], ix_wide hw5 (fun k hk => by simp at hk ⊢; omega) (fun k hk => ?_), IxOk.start, by simp [ix0], fun k hk => ?_, by simp, fun hm => ?_, fun hm => ?_, fun k hk => by simp [hk], fun k hk => ?_, hsz⟩, hit, HB1.out.grown hg5 HB1.out.size (fun k hk => by cases hk), hn.2.2.2.1, HAb.out⟩
  ·have h1 := hlt ab' (by simp)
   have h2 := hlt rb' (by simp)
   have h3 := hlt hb' (by simp)
   simp only [List.mem_cons] at hk
   rcases hk with rfl | rfl | rfl | rfl | hk
   ·omega
   ·omega
   ·omega
   ·omega
   ·have := HXl.out k hk; omega
  ·simp only [List.mem_cons] at hk
   rcases hk with rfl | rfl | rfl | rfl | hk
   ·exact .inr hn.1
   ·exact .inr hn.2.1
   ·exact .inr hn.2.2.1
   ·exact .inr hsz
   ·exact .inl hk
  ·have h1 := hlt ab' (by simp)
   have h2 := hlt rb' (by simp)
   have h3 := hlt hb' (by simp)
   simp at hm
   omega
  ·simp only [List.mem_cons] at hm
   rcases hm with h | h | h | h | h
   ·omega
   ·omega
   ·omega
   ·omega
   ·have := HXl.out cb h; omega
  ·simp at hk
   rcases hk with rfl | rfl | rfl
   ·exact hn.1
   ·exact hn.2.1
   ·exact hn.2.2.1)
 clear hit hg5 hs5 d1
 go_wp2_with fail
 go_loopg [] (I.all.length) (fun g wr => ∃ left, left.length ≤ g ∧ CloTo w X ab w4.heap.size cb I left wr)
 case atStart => exact ⟨I.all, Nat.le_refl _, HStart.out⟩
 case round =>
  obtain ⟨left, hgk, hR⟩ := hrel
  have HR := Lib.hid hR
  clear hR
  go_wp2_with (refine wpList_next_entry rfl _ rfl w4.heap.size ab HR.out.it rfl ?hend ?hstep)
  case hend =>
   intro h0
   subst h0
   have HFin := Lib.hid (HR.out.done HOk.out)
   go_wp2_with fail
   go_ret
   exact HFin.out
  case hstep =>
   intro ref lab left' v w6 hpm hev hit hg6 hs6 hent
   have HCall := Lib.hid (HTurn.out _ _ _ _ _ _ (ref, lab) v HR.out hpm hev hit hg6)
   obtain ⟨Av, cv, rfl, -⟩ := hev.1
   have hlg : left'.length < left.length := by have := hpm.length_eq; rw [List.length_cons] at this; omega
   simp only at HCall hent
   generalize lab.length = nl at *
   clear hpm hev hit hg6 hs6
   go_wp2_with fail
   refine HCall.out.mono ?_
   rintro e w7 ⟨⟨q, rfl⟩, hR7⟩
   have HR7 := Lib.hid hR7
   clear hR7
   go_wp2_with fail
   go_roundg (left'.length)
   case measure => omega
   case rel => exact ⟨left', Nat.le_refl _, HR7.out⟩
end Go.Proofs.YtlhmdgaohonpbaaGreatDoor

namespace Go.Proofs.YtlhmdgaohonpbaaGreatDoor
open Go.RowKit Go.Proofs.YtlhmdgaohonpbaaGreatDoor.MapRaw Go.ChangeMaps
def NilIx (a : Option Addr) (w : World) : Prop := a = none ∨ ∃ zp, a = some ⟨zp, 0, none⟩ ∧ w.cell? ⟨zp, 0, none⟩ = some (.bool false)
theorem NilIx.below {a : Option Addr} {w w' : World} (h : NilIx a w) (hb : Below w.heap.size w w') : NilIx a w' := by
 rcases h with rfl | ⟨zp, rfl, h⟩
 ·exact .inl rfl
 ·exact .inr ⟨zp, rfl, later hb h⟩
set_option maxHeartbeats 400000 in
theorem nilx_is (a : Option Addr) (w : World) (h : NilIx a w) :
  Calls Tryz.prog 41 #[.pointer a] w fun e w' => e = .returned (.bool false) ∧ w = w' := by
 rcases h with rfl | ⟨zp, rfl, h⟩
 ·go_enter Tryz.func41, Tryz.ntmps41
  go_wp2
  go_ret
  exact ⟨rfl, rfl⟩
 ·go_enter Tryz.func41, Tryz.ntmps41
  go_wp2
  go_ret
  exact ⟨rfl, rfl⟩
set_option maxRecDepth 100000 in
set_option maxHeartbeats 1000000 in
theorem nilx_select (a : Option Addr) (v : Value) (w : World) (h : NilIx a w) :
  Calls Tryz.prog 17 #[.pointer a, v] w fun e w' => e = .returned (.tuple #[.slice none 0 0, .int .i64 2]) ∧ Below w.heap.size w w' := by
 have HIs := Lib.hid fun (W : World) (hW : Below w.heap.size w W) => nilx_is a W (h.below hW)
 clear h
 go_enter Tryz.func17, Tryz.ntmps17
 go_wp2_with fail
 refine (HIs.out _ (balloc (Below.refl _ _) (.cells #[.pointer a] 26))).mono ?_
 rintro e w1 ⟨rfl, hw⟩
 subst hw
 go_wp2_with fail
 go_ret2
 exact ⟨rfl, (balloc (Below.refl _ _) (.cells #[.pointer a] 26))⟩
set_option maxRecDepth 100000 in
set_option maxHeartbeats 1000000 in
theorem nilx_labels (a : Option Addr) (n : Int) (w : World) (h : NilIx a w) :
  Calls Tryz.prog 26 #[.pointer a, .int .u64 n] w fun e w' => e = .returned (.tuple #[.slice none 0 0, .bool false]) ∧ Below w.heap.size w w' := by
 have HIs := Lib.hid fun (W : World) (hW : Below w.heap.size w W) => nilx_is a W (h.below hW)
 clear h
 go_enter Tryz.func26, Tryz.ntmps26
 go_wp2_with fail
 refine (HIs.out _ (Below.refl _ _)).mono ?_
 rintro e w1 ⟨rfl, hw⟩
 subst hw
 go_wp2_with fail
 go_ret2
 exact ⟨rfl, (Below.refl _ _)⟩
set_option maxRecDepth 100000 in
set_option maxHeartbeats 1000000 in
theorem nilx_ref (a : Option Addr) (v : Value) (w : World) (h : NilIx a w) :
  Calls Tryz.prog 28 #[.pointer a, v] w fun e w' => e = .returned (.tuple #[.int .u64 0, .bool false]) ∧ Below w.heap.size w w' := by
 have HIs := Lib.hid fun (W : World) (hW : Below w.heap.size w W) => nilx_is a W (h.below hW)
 clear h
 go_enter Tryz.func28, Tryz.ntmps28
 go_wp2_with fail
 refine (HIs.out _ (Below.refl _ _)).mono ?_
 rintro e w1 ⟨rfl, hw⟩
 subst hw
 go_wp2_with fail
 go_ret2
 exact ⟨rfl, (Below.refl _ _)⟩
set_option maxRecDepth 100000 in
set_option maxHeartbeats 1000000 in
theorem nilx_add (a : Option Addr) (n : Int) (v : Value) (w : World) (h : NilIx a w) :
  Calls Tryz.prog 15 #[.pointer a, .int .u64 n, v] w fun e w' => e = .returned (.int .i64 2) ∧ Below w.heap.size w w' := by
 have HIs := Lib.hid fun (W : World) (hW : Below w.heap.size w W) => nilx_is a W (h.below hW)
 clear h
 go_enter Tryz.func15, Tryz.ntmps15
 go_wp2_with fail
 refine (HIs.out _ (Below.refl _ _)).mono ?_
 rintro e w1 ⟨rfl, hw⟩
 subst hw
 go_wp2_with fail
 go_ret
 exact ⟨rfl, (Below.refl _ _)⟩
set_option maxRecDepth 100000 in
set_option maxHeartbeats 1000000 in
theorem nilx_cut (a : Option Addr) (n : Int) (w : World) (h : NilIx a w) :
  Calls Tryz.prog 40 #[.pointer a, .int .u64 n] w fun e w' => e = .returned (.int .i64 2) ∧ Below w.heap.size w w' := by
 have HIs := Lib.hid fun (W : World) (hW : Below w.heap.size w W) => nilx_is a W (h.below hW)
 clear h
 go_enter Tryz.func40, Tryz.ntmps40
 go_wp2_with fail
 refine (HIs.out _ (Below.refl _ _)).mono ?_
 rintro e w1 ⟨rfl, hw⟩
 subst hw
 go_wp2_with fail
 go_ret
 exact ⟨rfl, (Below.refl _ _)⟩
set_option maxRecDepth 100000 in
set_option maxHeartbeats 1000000 in
theorem nilx_len (a : Option Addr) (w : World) (h : NilIx a w) :
  Calls Tryz.prog 25 #[.pointer a] w fun e w' => e = .returned (.int .i64 0) ∧ Below w.heap.size w w' := by
 have HIs := Lib.hid fun (W : World) (hW : Below w.heap.size w W) => nilx_is a W (h.below hW)
 clear h
 go_enter Tryz.func25, Tryz.ntmps25
 go_wp2_with fail
 refine (HIs.out _ (Below.refl _ _)).mono ?_
 rintro e w1 ⟨rfl, hw⟩
 subst hw
 go_wp2_with fail
 go_ret
 exact ⟨rfl, (Below.refl _ _)⟩
set_option maxRecDepth 100000 in
set_option maxHeartbeats 1000000 in
theorem nilx_names (a : Option Addr) (w : World) (h : NilIx a w) :
  Calls Tryz.prog 20 #[.pointer a] w fun e w' => e = .returned (.slice none 0 0) ∧ Below w.heap.size w w' := by
 have HIs := Lib.hid fun (W : World) (hW : Below w.heap.size w W) => nilx_is a W (h.below hW)
 clear h
 go_enter Tryz.func20, Tryz.ntmps20
 go_wp2_with fail
 refine (HIs.out _ (Below.refl _ _)).mono ?_
 rintro e w1 ⟨rfl, hw⟩
 subst hw
 go_wp2_with fail
 go_ret
 exact ⟨rfl, (Below.refl _ _)⟩
set_option maxRecDepth 100000 in
set_option maxHeartbeats 1000000 in
theorem nilx_values (a : Option Addr) (s : ByteArray) (w : World) (h : NilIx a w) :
  Calls Tryz.prog 31 #[.pointer a, .string s] w fun e w' => e = .returned (.slice none 0 0) ∧ Below w.heap.size w w' := by
 have HIs := Lib.hid fun (W : World) (hW : Below w.heap.size w W) => nilx_is a W (h.below hW)
 clear h
 go_enter Tryz.func31, Tryz.ntmps31
 go_wp2_with fail
 refine (HIs.out _ (Below.refl _ _)).mono ?_
 rintro e w1 ⟨rfl, hw⟩
 subst hw
 go_wp2_with fail
 go_ret
 exact ⟨rfl, (Below.refl _ _)⟩
set_option maxRecDepth 100000 in
set_option maxHeartbeats 1000000 in
theorem nilx_clone (a : Option Addr) (w : World) (h : NilIx a w) :
  Calls Tryz.prog 38 #[.pointer a] w fun e w' => e = .returned (.pointer none) ∧ Below w.heap.size w w' := by
 have HIs := Lib.hid fun (W : World) (hW : Below w.heap.size w W) => nilx_is a W (h.below hW)
 clear h
 go_enter Tryz.func38, Tryz.ntmps38
 go_wp2_with fail
 refine (HIs.out _ (Below.refl _ _)).mono ?_
 rintro e w1 ⟨rfl, hw⟩
 subst hw
 go_wp2_with fail
 go_ret
 exact ⟨rfl, (Below.refl _ _)⟩
end Go.Proofs.YtlhmdgaohonpbaaGreatDoor

namespace Go.Proofs.YtlhmdgaohonpbaaGreatDoor
open Go.RowKit Go.Proofs.YtlhmdgaohonpbaaGreatDoor.MapRaw Go.ChangeMaps
structure FrX (w : World) (X : List Nat) (w' : World) (X' : List Nat) : Prop where
 more : MoreX w X X'
 same : ∀ k, k < w.heap.size → k ∉ X → w'.heap[k]? = w.heap[k]?
 size : w.heap.size ≤ w'.heap.size
theorem FrX.trans {w w1 w2 : World} {X X1 X2 : List Nat} (h : FrX w X w1 X1) (h' : FrX w1 X1 w2 X2) : FrX w X w2 X2 :=
 ⟨h.more.trans h'.more h.size, fun k hk hX => (h'.same k (Nat.lt_of_lt_of_le hk h.size) (h.more.out hk hX)).trans (h.same k hk hX), Nat.le_trans h.size h'.size⟩
theorem FrX.below {w w' : World} {X : List Nat} (hb : Below w.heap.size w w') : FrX w X w' X := ⟨MoreX.refl _ _, fun k hk _ => hb.block k hk, hb.size⟩
theorem FrX.ofA {w w' : World} {X X' : List Nat} {P : Nat → Prop} (hA : Apart P w w') (hP : ∀ k, P k → k ∈ X) (hm : MoreX w X X') : FrX w X w' X' := ⟨hm, fun k hk hX => hA.block k hk (fun hp => hX (hP k hp)), hA.size⟩
theorem FrX.own {w w' : World} {X : List Nat} {u : Value} (hb : Below w.heap.size w w') (hu : ∀ j, u.ownBlock = some j → w.heap.size ≤ j) : FrX w X w' (moreY X u) :=
 ⟨⟨fun k hk => mem_moreY.2 (.inr hk), fun k hk => (mem_moreY.1 hk).elim (fun e => .inr (hu k e)) .inl⟩, fun k hk _ => hb.block k hk, hb.size⟩
section
variable {w0 wr w2 : World} {xb yb : Nat} {F : List Nat} {I I' : Ix} {X X' : List Nat} {ab rb hb : Nat} {inner inner' : Pairs} {v v' : Value} {l : List Sx}
theorem bo_addX {D : Nat → Prop} (ref : Int) (ov : Value) (lab : List Lb) (h : Bo w0 xb yb F I X ab rb hb inner v l wr) (hv : SlL wr D ov lab) (hD : ∀ k, D k → k ≠ ab) (hz : SzL lab) (hT : Tabs w0) (h2 : 2 ≤ w0.heap.size) :
  Calls Tryz.prog 15 #[.pointer (some ⟨xb, 0, none⟩), .int .u64 ref, ov] wr fun e w' => e = .returned (.int .i64 (addErr I ref lab)) ∧ ∃ X' inner', BoMid w0 xb yb F (if addErr I ref lab = 0 then addI I ref lab else I) X' ab rb hb inner' v l w' ∧ Apart (blksI ab rb hb inner) wr w' ∧ MoreX wr X X' := by
 by_cases he : addErr I ref lab = 0
 ·rw [he, if_pos rfl]
  refine (ix_addD ref ov lab wr h.ix h.xX hD hv hz (hT.below h.below h2) (Nat.le_trans h2 h.below.size) he).mono ?_
  intro e w' hp
  obtain ⟨he2, X', inner', ht⟩ := XTurned.ofAdd hp
  exact ⟨he2, X', inner', h.turnX ht, ht.apart, ht.more⟩
 ·rw [if_neg he]
  refine (ix_add_refused ref ov lab wr h.ix hv hz (hT.below h.below h2) (Nat.le_trans h2 h.below.size) he).mono ?_
  rintro e w' ⟨he2, hb2⟩
  exact ⟨he2, X, inner, BoMid.ofBo (h.then hb2), below_apart hb2 _, MoreX.refl _ _⟩
theorem bo_cutX (ref : Int) (h : Bo w0 xb yb F I X ab rb hb inner v l wr) :
  Calls Tryz.prog 40 #[.pointer (some ⟨xb, 0, none⟩), .int .u64 ref] wr fun e w' => e = .returned (.int .i64 (if (mget I.all ref).isSome = true then 0 else 101)) ∧ ∃ X' inner', BoMid w0 xb yb F (cutI I ref) X' ab rb hb inner' v l w' ∧ Apart (blksI ab rb hb inner) wr w' ∧ MoreX wr X X' := by
 refine (ix_cut ref wr h.ix h.xX h.ok).mono ?_
 rintro e w' ⟨he, inner', h1, h3, h4⟩
 exact ⟨he, X, inner', h.turnX ⟨h1, MoreX.refl _ _, fun k hk => .inl (h3 k hk), h4⟩, h4, MoreX.refl _ _⟩
theorem bo_addZ {D : Nat → Prop} (ref : Int) (qv : Value) (q : List Lb) (h : BoMid w0 xb yb F I X ab rb hb inner v l wr) (hq : SlL wr D qv q) (hz : SzL q) (hn : l.length ≤ 1000000) :
  Calls Tryz.prog 56 #[.pointer (some ⟨yb, 0, none⟩), .int .u64 ref, qv] wr fun e w' => e = .returned (.int .i64 (addY (l.map Sx.key) ref q)) ∧ ∃ X' v' l', BoMid w0 xb yb F I X' ab rb hb inner v' l' w' ∧ l'.map Sx.key = (if addY (l.map Sx.key) ref q = 0 then l.map Sx.key ++ [(ref, q)] else l.map Sx.key) ∧ Apart (blksY yb v) wr w' ∧ MoreX wr X X' := by
 refine (ref10_add X yb v qv l ref q wr h.y h.ltX hq hz hn).mono ?_
 rintro e w' ⟨he, X', v', ht⟩
 obtain ⟨l', h1, h2⟩ := h.turnY ht
 exact ⟨he, X', v', l', h1, h2, ht.apart, ht.more⟩
theorem bo_cutZ (ref : Int) (h : BoMid w0 xb yb F I X ab rb hb inner v l wr) (hn : l.length ≤ 1000000) :
  Calls Tryz.prog 55 #[.pointer (some ⟨yb, 0, none⟩), .int .u64 ref] wr fun e w' => e = .returned (.int .i64 (if (mget (l.map Sx.key) ref).isSome = true then 0 else 101)) ∧ ∃ X' v' l', BoMid w0 xb yb F I X' ab rb hb inner v' l' w' ∧ l'.map Sx.key = mdel (l.map Sx.key) ref ∧ Apart (blksY yb v) wr w' ∧ MoreX wr X X' := by
 refine (ref10_cut X yb v l ref wr h.y h.ltX hn).mono ?_
 rintro e w' ⟨he, X', v', ht⟩
 obtain ⟨l', h1, h2⟩ := h.turnY ht
 exact ⟨he, X', v', l', h1, h2, ht.apart, ht.more⟩
end
def BothX (w0 : World) (xb yb : Nat) (w : World) (X : List Nat) (I : Ix) (w' : World) : Prop := ∃ X' ab rb hb inner v l, Bo w0 xb yb [] I X' ab rb hb inner v l w' ∧ l.map Sx.key = I.all ∧ FrX w X w' X'
set_option maxRecDepth 100000 in
set_option maxHeartbeats 4000000 in
theorem law_doesX {D : Nat → Prop} {w0 : World} {xb yb : Nat} {I : Ix} {X : List Nat} {ab rb hb : Nat} {inner : Pairs} {v : Value} {l : List Sx} (o : OpV) (w : World) (hBo : Bo w0 xb yb [] I X ab rb hb inner v l w) (hkeys : l.map Sx.key = I.all) (hlv : SlL w0 D o.lv o.lab) (hs : SmallL o.lab) (hn : I.all.length ≤ 100000) (hT : Tabs w0) (h2 : 2 ≤ w0.heap.size) :
  Calls Tryz.prog 24 #[.pointer (some ⟨xb, 0, none⟩), .pointer (some ⟨yb, 0, none⟩), .agg #[.bool o.cut, .int .u64 o.ref, o.lv]] w fun e w' => e = .returned (.bool true) ∧ BothX w0 xb yb w X (opI I o.op) w' := by
 obtain ⟨cut, ref, lv, lab⟩ := o
 simp only at hlv hs ⊢
 have hll : l.length ≤ 1000000 := by have := congrArg List.length hkeys; rw [List.length_map] at this; omega
 obtain ⟨Al, cl, rfl, -⟩ := id hlv
 obtain ⟨n, hnn⟩ : ∃ n, n = lab.length := ⟨_, rfl⟩
 rw [← hnn] at hlv ⊢
 have HLV := Lib.hid fun (W : World) (hW : Below w0.heap.size w0 W) => Slc.below hlv hW
 have hg : Below w.heap.size w (w.alloc (.cells #[.bool cut, .int .u64 ref, .slice Al n cl] 54)) := balloc (Below.refl _ _) _
 have hBo1 := hBo.then hg
 have x0 : (w.alloc (.cells #[.bool cut, .int .u64 ref, .slice Al n cl] 54)).cell? ⟨w.heap.size, 0, none⟩ = some (.bool cut) := by simp
 have x1 : (w.alloc (.cells #[.bool cut, .int .u64 ref, .slice Al n cl] 54)).cell? ⟨w.heap.size, 1, none⟩ = some (.int .u64 ref) := by simp
 have x2 : (w.alloc (.cells #[.bool cut, .int .u64 ref, .slice Al n cl] 54)).cell? ⟨w.heap.size, 2, none⟩ = some (.slice Al n cl) := by simp
 have hgs : w.heap.size < (w.alloc (.cells #[.bool cut, .int .u64 ref, .slice Al n cl] 54)).heap.size := by simp
 obtain ⟨W, hW⟩ : ∃ W, W = w.alloc (.cells #[.bool cut, .int .u64 ref, .slice Al n cl] 54) := ⟨_, rfl⟩
 rw [← hW] at hg hBo1 x0 x1 x2 hgs
 have hgX : ∀ k ∈ X, k < w.heap.size := hBo.ix.lt
 have HW := Lib.hid hW
 cases cut with
 | true =>
  -- the two calls
  have HCutX : Hid (∀ U : World, Below W.heap.size W U → Calls Tryz.prog 40 #[.pointer (some ⟨xb, 0, none⟩), .int .u64 ref] U fun e w' => e = .returned (.int .i64 (if (mget I.all ref).isSome = true then 0 else 101)) ∧ ∃ X' inner', BoMid w0 xb yb [] (cutI I ref) X' ab rb hb inner' v l w' ∧ w'.cell? ⟨w.heap.size, 1, none⟩ = some (.int .u64 ref) ∧ FrX w X w' X') := Lib.hid (fun U hU => by
   refine (bo_cutX ref (hBo1.then hU)).mono ?_
   rintro e w' ⟨he, X', inner', h1, hA, hm⟩
   exact ⟨he, X', inner', h1, hA.cell (fun hk => by have := hgX _ (hBo.ix.sub _ hk); omega) (later hU x1), (FrX.below (bthen hg hU)).trans (FrX.ofA hA (fun k hk => hBo.ix.sub k hk) hm)⟩)
  have HCutY : Hid (∀ (U : World) X' inner', BoMid w0 xb yb [] (cutI I ref) X' ab rb hb inner' v l U → U.cell? ⟨w.heap.size, 1, none⟩ = some (.int .u64 ref) → FrX w X U X' → Calls Tryz.prog 55 #[.pointer (some ⟨yb, 0, none⟩), .int .u64 ref] U fun e w' => e = .returned (.int .i64 (if (mget I.all ref).isSome = true then 0 else 101)) ∧ BothX w0 xb yb w X (opI I ⟨true, ref, lab⟩) w' ∧ w'.cell? ⟨w.heap.size, 1, none⟩ = some (.int .u64 ref)) := Lib.hid (fun U X' inner' hU hcU hF => by
   rw [← hkeys]
   refine (bo_cutZ ref hU hll).mono ?_
   rintro e w' ⟨he, X2, v', l', h1, h3, hA, hm⟩
   refine ⟨he, ⟨X2, ab, rb, hb, inner', v', l', ?_, ?_, hF.trans (FrX.ofA hA (fun k hk => hU.y.sub k hk) hm)⟩, hA.cell (fun hk => by have := hBo.y.lt _ hk; omega) hcU⟩
   ·exact h1.with (hBo.ok.cut ref).1
   ·rw [h3, hkeys]; exact (cut_all I ref).symm)
  generalize (if (mget I.all ref).isSome = true then (0 : Int) else 101) = code at *
  clear hBo hBo1 hlv hs hkeys hll hgX hW hnn hgs
  go_enter Tryz.func24, Tryz.ntmps24
  go_upto_region 2 with fail
  rw [← HW.out]
  have y1 : W.drew.cell? ⟨w.heap.size, 1, none⟩ = some (.int .u64 ref) := x1
  clear x1 x0 x2
  go_region_held3 (fun w' => w'.cell? ⟨w.heap.size, 1, none⟩ = some (.int .u64 ref)) (first | exact y1 | exact y5 | exact y6)
   (first | (go_at_call 40; refine (HCutX.out _ (bdrew (Below.refl _ _))).mono ?_; rintro e w5 ⟨rfl, X5, inner5, h5, y5, f5⟩) | (go_at_call 55; refine (HCutY.out w5 X5 inner5 h5 y5 f5).mono ?_; rintro e w6 ⟨rfl, h6, y6⟩))
  all_goals
   have H6 := Lib.hid h6
   clear h6 h5 y6 y5 y1 f5
   go_wp2_with fail
   go_ret
   exact ⟨rfl, H6.out⟩
 | false =>
  have hx1 : ∀ k, w.heap.size ≤ k → k ∉ X := fun k hk hX => by have := hgX k hX; omega
  have hsz := hs.sz
  have HSm := Lib.hid hs
  have hn30 : n ≤ 30 := by rw [hnn]; exact hs.1
  have Hn := Lib.hid hnn
  have HBo1 := Lib.hid hBo1
  have HLs := Lib.hid hgs
  have HSrc := Lib.hid fun (U : World) (hU : Below w0.heap.size w0 U) => (HLV.out U hU).src lb_len lb_one (by decide)
  rw [← hnn] at HSrc
  -- x.Add of the own labels
  have HAddX : Hid (∀ (U : World) (ov : Value), Below W.heap.size W U → U.ownsRow W.heap.size 80 2 ov n (lab.flatMap Lb.enc) → Calls Tryz.prog 15 #[.pointer (some ⟨xb, 0, none⟩), .int .u64 ref, ov] U fun e w' => e = .returned (.int .i64 (addErr I ref lab)) ∧ ∃ X' inner', BoMid w0 xb yb (moreY [] ov) (if addErr I ref lab = 0 then addI I ref lab else I) X' ab rb hb inner' v l w' ∧ FrX w X w' X' ∧ w'.ownsRow W.heap.size 80 2 ov n (lab.flatMap Lb.enc) ∧ w'.cell? ⟨w.heap.size, 1, none⟩ = some (.int .u64 ref) ∧ w'.cell? ⟨w.heap.size, 2, none⟩ = some (.slice Al n cl)) := Lib.hid (fun U ov hU hO => by
   have hb1 := hBo1.addOwn hU hO
   refine (bo_addX ref ov lab hb1 (own_slc lb_len hnn hO) (fun k hk e => by have := hgX k (hBo.ix.sub k (by rw [e]; simp)); omega) hsz hT h2).mono ?_
   rintro e w' ⟨he, X', inner', h1, hA, hm⟩
   have hno : ∀ k, w.heap.size ≤ k → ¬ blksI ab rb hb inner k := fun k hk hi => hx1 k hk (hBo.ix.sub k hi)
   exact ⟨he, X', inner', h1, (FrX.own (bthen hg hU) (fun j hj => by have := (ownsRow_blk hO j hj).1; omega)).trans (FrX.ofA hA (fun k hk => mem_moreY.2 (.inr (hBo.ix.sub k hk))) hm), ownsRow_move hO (fun k hk => hA.block k (ownsRow_blk hO k hk).2 (hno k (by have := (ownsRow_blk hO k hk).1; omega))), hA.cell (hno _ (Nat.le_refl _)) (later hU x1), hA.cell (hno _ (Nat.le_refl _)) (later hU x2)⟩)
  have HAddY : Hid (∀ (U : World) (ov : Value) X' inner', BoMid w0 xb yb (moreY [] ov) (if addErr I ref lab = 0 then addI I ref lab else I) X' ab rb hb inner' v l U → FrX w X U X' → U.ownsRow W.heap.size 80 2 ov n (lab.flatMap Lb.enc) → U.cell? ⟨w.heap.size, 1, none⟩ = some (.int .u64 ref) → U.cell? ⟨w.heap.size, 2, none⟩ = some (.slice Al n cl) → Calls Tryz.prog 56 #[.pointer (some ⟨yb, 0, none⟩), .int .u64 ref, .slice Al n cl] U fun e w' => e = .returned (.int .i64 (addErr I ref lab)) ∧ (∃ X2 v' l', Bo w0 xb yb (moreY [] ov) (opI I ⟨false, ref, lab⟩) X2 ab rb hb inner' v' l' w' ∧ l'.map Sx.key = (opI I ⟨false, ref, lab⟩).all ∧ FrX w X w' X2) ∧ w'.ownsRow W.heap.size 80 2 ov n (lab.flatMap Lb.enc) ∧ w'.cell? ⟨w.heap.size, 1, none⟩ = some (.int .u64 ref) ∧ w'.cell? ⟨w.heap.size, 2, none⟩ = some (.slice Al n cl)) := Lib.hid (fun U ov X' inner' hU hF hO hc1 hc2 => by
   have hadd := add_same10 hBo.ok ref lab
   rw [hadd, ← hkeys]
   refine (bo_addZ ref (.slice Al n cl) lab hU (HLV.out U hU.below) hsz hll).mono ?_
   rintro e w' ⟨he, X2, v', l', h1, h3, hA, hm⟩
   have hno : ∀ k, w.heap.size ≤ k → ¬ blksY yb v k := fun k hk hi => by have := hBo.y.lt k hi; omega
   have hopI : opI I ⟨false, ref, lab⟩ = if addErr I ref lab = 0 then addI I ref lab else I := by unfold opI; rw [if_neg (by simp)]
   have hok := opI_ok hBo.ok ⟨false, ref, lab⟩
   refine ⟨he, ⟨X2, v', l', ?_, ?_, hF.trans (FrX.ofA hA (fun k hk => hU.y.sub k hk) hm)⟩, ownsRow_move hO (fun k hk => hA.block k (ownsRow_blk hO k hk).2 (hno k (by have := (ownsRow_blk hO k hk).1; omega))), hA.cell (hno _ (Nat.le_refl _)) hc1, hA.cell (hno _ (Nat.le_refl _)) hc2⟩
   ·rw [hopI] at hok ⊢
    exact h1.with hok
   ·rw [h3, op_all hBo.ok, hkeys]; simp [opY])
  generalize addErr I ref lab = code at *
  clear hBo hBo1 hlv hs hsz hkeys hll hgX hx1 hW hnn hgs
  go_enter Tryz.func24, Tryz.ntmps24
  go_upto_region 3 with fail
  rw [← HW.out]
  clear HW
  have HBa : Hid (Below W.heap.size W (W.alloc (.cells #[] 80))) := Lib.hid (balloc (Below.refl _ _) _)
  have hsrc := HSrc.out _ (bthen HBo1.out.below HBa.out)
  have HSr := Lib.hid hsrc
  have HO := Lib.hid (World.ownsRow_lit (base := W.heap.size) (e := 80) (size := 2) W #[] 0 (Nat.le_refl _) (by decide) rfl)
  have y2 := later HBa.out x2
  clear hsrc
  go_wp2_with (at_builtin; refine wpList_app (w0 := W) W.heap.size rfl _ _ 29 80 _ 2 32 n (lab.flatMap Lb.enc) rfl Tryz.underlying29 info_lb10 rfl (by decide) (by decide) (.slice (some ⟨W.heap.size, 0, none⟩) 0 0) 0 [] ?hs1 ?hx1 HO.out HBa.out (by simp) (by omega) ?_)
  try (case hs1 => rfl)
  case hx1 => exact HSr.out
  intro v4 w4 hO4 hB4 hg4 hat4
  try simp only [Nat.zero_add, List.nil_append] at hO4
  obtain ⟨A4, c4, rfl⟩ := own_slice hO4
  have hcx := HAddX.out w4.drew _ (bdrew hB4) (own_below hO4 (bdrew (Below.refl _ _)))
  have HCx := Lib.hid hcx
  have y1 : w4.drew.cell? ⟨w.heap.size, 1, none⟩ = some (.int .u64 ref) := later hB4 x1
  have y2 : w4.drew.cell? ⟨w.heap.size, 2, none⟩ = some (.slice Al n cl) := later hB4 x2
  clear hO4 hB4 hg4 hat4 hcx HAddX HO HSr HBa x0 x1 x2
  go_wp2_with fail
  go_region_held3 (fun w' => w'.cell? ⟨w.heap.size, 1, none⟩ = some (.int .u64 ref) ∧ w'.cell? ⟨w.heap.size, 2, none⟩ = some (.slice Al n cl)) (first | exact ⟨y1, y2⟩ | exact ⟨y5, z5⟩ | exact ⟨y6, z6⟩)
   (first | (go_at_call 15; refine HCx.out.mono ?_; rintro e w5 ⟨rfl, X5, inner5, h5, f5, o5, y5, z5⟩) | (go_at_call 56; refine (HAddY.out w5 _ X5 inner5 h5 f5 o5 y5 z5).mono ?_; rintro e w6 ⟨rfl, ⟨X6, v6, l6, h6, k6, f6⟩, o6, y6, z6⟩))
  all_goals
   have H6 := Lib.hid h6
   have K6 := Lib.hid k6
   have O6 := Lib.hid o6
   have F6 := Lib.hid f6
   clear h6 k6 o6 h5 o5 y5 z5 y6 z6 y1 y2 f5 f6
   go_wp2_with fail
   go_loopw [39] (fun i wr => ∃ k : Nat, k ≤ n ∧ i = .int .i64 k ∧ (∀ g, A4 = some ⟨g, 0, none⟩ → OwnTo w6 g lab k wr) ∧ Apart (fun b => b ∈ moreY [] (.slice A4 n c4)) w6 wr) (fun i _ => n - (intOf i).toNat)
   case atStart => exact ⟨0, Nat.zero_le _, rfl, fun g e => by have h := O6.out; rw [e] at h; exact OwnTo.start Hn.out h, Apart.refl _ _⟩
   case round =>
    obtain ⟨k, hk, rfl, hE, hA⟩ := hrel
    by_cases hlt : k < n
    ·have hkl : k < lab.length := by rw [← Hn.out]; exact hlt
     have hex : ∃ g, A4 = some ⟨g, 0, none⟩ := by
      rcases O6.out.2 with ⟨_, e⟩ | ⟨g, cap, cur, e, _⟩
      ·omega
      ·cases e; exact ⟨g, rfl⟩
     obtain ⟨g, hg4⟩ := hex
     obtain ⟨cs, hb, hcs⟩ := (hE g hg4).row
     have hz := hcs k _ (Nat.le_refl _) (List.getElem?_eq_getElem hkl)
     have cz : wr.cell? ⟨g, k * 2 + 1, none⟩ = some (.string lab[k].v) := (blk_cell hb _).trans hz
     have fz : wr.frozen? ⟨g, k * 2 + 1, none⟩ = false := free_blk (i := k * 2 + 1) hb
     have hsv := (HSm.out.2 _ (List.getElem_mem hkl)).2
     have HNx := Lib.hid fun (u : Value) => (hE g hg4).next u
     have HAx := Lib.hid fun (u : Value) => Apart.setC hA ⟨g, k * 2 + 1, none⟩ (.inl (mem_moreY.2 (.inl (by rw [hg4]; rfl)))) u
     generalize lab[k].v = yv at *
     subst hg4
     clear hE hA hb hcs hz
     go_wp2_with fail
     go_roundw
     case rel => exact ⟨k + 1, by omega, by go_num, fun g' e => by cases e; exact HNx.out _, HAx.out _⟩
     case measure => simp [intOf] <;> omega
    ·have HA := Lib.hid hA
     clear hE hA
     go_wp2_with fail
     go_ret
     exact ⟨rfl, X6, ab, rb, hb, inner5, v6, l6, (H6.out.turnF HA.out).forget, K6.out, F6.out.trans (FrX.ofA HA.out (fun k hk => (H6.out.fx k hk).1) (MoreX.refl _ _))⟩
end Go.Proofs.YtlhmdgaohonpbaaGreatDoor

namespace Go.Proofs.YtlhmdgaohonpbaaGreatDoor
open Go.RowKit Go.Proofs.YtlhmdgaohonpbaaGreatDoor.MapRaw Go.ChangeMaps
theorem sel_eq {I J : Ix} (hI : IxOk I) (hJ : IxOk J) (h : ∀ r, mget J.all r = mget I.all r) (ml : List Mt) : selR J ml = selR I ml := by
 unfold selR
 rw [select_same hJ hI h]
set_option maxRecDepth 100000 in
set_option maxHeartbeats 8000000 in
theorem law_clone {D D1 D2 D3 D4 : Nat → Prop} (v : Value) (l : List OpV) (nv : Value) (l2 : List OpV) (mv : Value) (ml : List Mt) (w : World) (hv : Slc 3 OpV.enc w D v l) (ho : OpOk w D1 l) (hn : Slc 3 OpV.enc w D2 nv l2) (ho2 : OpOk w D3 l2) (hm : Slc 3 Mt.enc w D4 mv ml) (hzm : ∀ x ∈ ml, SzM x) (hT : Tabs w) (h2 : 2 ≤ w.heap.size) :
  Calls Tryz.prog 9 #[v, nv, mv] w fun e w' => e = .returned (.bool true) ∧ Below w.heap.size w w' := by
 have HLive := Lib.hid fun (W : World) (hW : Below w.heap.size w W) => law10_live W (hT.below hW h2) (Nat.le_trans h2 hW.size)
 have HMuch1 := Lib.hid fun (W : World) (hW : Below w.heap.size w W) => law_much v l W (hv.below hW) (fun o hoo => (ho o hoo).below hW)
 have HMuch2 := Lib.hid fun (W : World) (hW : Below w.heap.size w W) => law_much nv l2 W (hn.below hW) (fun o hoo => (ho2 o hoo).below hW)
 have HLaid := Lib.hid fun (hmu : muchB l = false) (W : World) (hW : Below w.heap.size w W) => law_laid v l w W hW hv ho hmu hT h2
 have HLongM := Lib.hid fun (W : World) (hW : Below w.heap.size w W) => law_long mv ml W (hm.below hW)
 have HDo : Hid (∀ (W : World) (xb yb : Nat) (I : Ix) (X : List Nat) (ab rb hb : Nat) (inner : Pairs) (vy : Value) (ls : List Sx) (o : OpV), o ∈ l2 → muchB l2 = false → Bo w xb yb [] I X ab rb hb inner vy ls W → ls.map Sx.key = I.all → I.all.length ≤ 1000 → Calls Tryz.prog 24 #[.pointer (some ⟨xb, 0, none⟩), .pointer (some ⟨yb, 0, none⟩), .agg #[.bool o.cut, .int .u64 o.ref, o.lv]] W fun e w' => e = .returned (.bool true) ∧ BothX w xb yb W X (opI I o.op) w') := Lib.hid (fun W xb yb I X ab rb hb inner vy ls o hoo hmu hB hk hI => law_doesX o W hB hk (ho2 o hoo) ((much_small hmu).2 o hoo) (by omega) hT h2)
 have HM := Lib.hid hm
 have HT := Lib.hid hT
 have HZm := Lib.hid hzm
 have HOk2 := Lib.hid ho2
 have HB0 := Lib.hid (Below.refl w.heap.size w)
 obtain ⟨A, c, rfl, p1, p2, -, -, p5⟩ := hv
 obtain ⟨An, cn, rfl, q1, q2, -, -, q5⟩ := hn
 have HRd2 := Lib.hid fun (W : World) (hW : Below w.heap.size w W) => Rd.below q5 hW
 have hm9 : l2.length ≤ 9223372036854775807 := by simp only [maxLen] at q2; omega
 obtain ⟨Am, cm, rfl, -⟩ := hm
 obtain ⟨m, hm⟩ : ∃ m, m = l.length := ⟨_, rfl⟩
 obtain ⟨m2, hm2⟩ : ∃ m, m = l2.length := ⟨_, rfl⟩
 have Hm2 := Lib.hid hm2
 rw [← hm] at HMuch1 HLaid ⊢
 rw [← hm2] at HMuch2 hm9 ⊢
 clear ho ho2 p1 p2 p5 q1 q2 q5 hT hzm
 generalize ml.length = nm at *
 clear hm hm2
 cases hmu : muchB l with
 | true =>
  rw [hmu] at HMuch1
  clear hmu HLaid HDo
  go_enter Tryz.func9, Tryz.ntmps9
  go_wp2_with fail
  refine (HLive.out w HB0.out).mono ?_
  rintro e w1 ⟨rfl, hb⟩
  have HB1 := Lib.hid (bthen HB0.out hb)
  clear hb
  go_wp2_with fail
  refine (HMuch1.out w1 HB1.out).mono ?_
  rintro e w2 ⟨rfl, hb⟩
  have HB2 := Lib.hid (bthen HB1.out hb)
  clear hb
  go_wp2_with fail
  refine (HLive.out w2 HB2.out).mono ?_
  rintro e w3 ⟨rfl, hb⟩
  have HB3 := Lib.hid (bthen HB2.out hb)
  clear hb
  go_wp2_with fail
  go_ret
  exact ⟨rfl, HB3.out⟩
 | false =>
  rw [hmu] at HMuch1
  have HLd := Lib.hid (HLaid.out hmu)
  unfold LaidPost at HLd
  have HM60 : Hid (l.length ≤ 60) := Lib.hid (much_small hmu).1
  clear hmu HLaid
  cases hmu : muchB l2 with
  | true =>
   rw [hmu] at HMuch2
   clear hmu HDo
   go_enter Tryz.func9, Tryz.ntmps9
   go_wp2_with fail
   refine (HLive.out w HB0.out).mono ?_
   rintro e w1 ⟨rfl, hb⟩
   have HB1 := Lib.hid (bthen HB0.out hb)
   clear hb
   go_wp2_with fail
   refine (HMuch1.out w1 HB1.out).mono ?_
   rintro e w2 ⟨rfl, hb⟩
   have HB2 := Lib.hid (bthen HB1.out hb)
   clear hb
   go_wp2_with fail
   refine (HMuch2.out w2 HB2.out).mono ?_
   rintro e w3 ⟨rfl, hb⟩
   have HB3 := Lib.hid (bthen HB2.out hb)
   clear hb
   go_wp2_with fail
   refine (HLive.out w3 HB3.out).mono ?_
   rintro e w4 ⟨rfl, hb⟩
   have HB4 := Lib.hid (bthen HB3.out hb)
   clear hb
   go_wp2_with fail
   go_ret
   exact ⟨rfl, HB4.out⟩
  | false =>
   have HMu2 := Lib.hid hmu
   have HM602 : Hid (l2.length ≤ 60) := Lib.hid (much_small hmu).1
   rw [hmu] at HMuch2
   clear hmu
   cases hlg : longB ml with
   | true =>
    rw [hlg] at HLongM
    clear hlg HDo
    go_enter Tryz.func9, Tryz.ntmps9
    go_wp2_with fail
    refine (HLive.out w HB0.out).mono ?_
    rintro e w1 ⟨rfl, hb⟩
    have HB1 := Lib.hid (bthen HB0.out hb)
    clear hb
    go_wp2_with fail
    refine (HMuch1.out w1 HB1.out).mono ?_
    rintro e w2 ⟨rfl, hb⟩
    have HB2 := Lib.hid (bthen HB1.out hb)
    clear hb
    go_wp2_with fail
    refine (HMuch2.out w2 HB2.out).mono ?_
    rintro e w3 ⟨rfl, hb⟩
    have HB3 := Lib.hid (bthen HB2.out hb)
    clear hb
    go_wp2_with fail
    refine (HLongM.out w3 HB3.out).mono ?_
    rintro e w4 ⟨rfl, hb⟩
    have HB4 := Lib.hid (bthen HB3.out hb)
    clear hb
    go_wp2_with fail
    refine (HLive.out w4 HB4.out).mono ?_
    rintro e w5 ⟨rfl, hb⟩
    have HB5 := Lib.hid (bthen HB4.out hb)
    clear hb
    go_wp2_with fail
    go_ret
    exact ⟨rfl, HB5.out⟩
   | false =>
    rw [hlg] at HLongM
    clear hlg
    go_enter Tryz.func9, Tryz.ntmps9
    go_wp2_with fail
    refine (HLive.out w HB0.out).mono ?_
    rintro e w1 ⟨rfl, hb⟩
    have HB1 := Lib.hid (bthen HB0.out hb)
    clear hb
    go_wp2_with fail
    refine (HMuch1.out w1 HB1.out).mono ?_
    rintro e w2 ⟨rfl, hb⟩
    have HB2 := Lib.hid (bthen HB1.out hb)
    clear hb
    go_wp2_with fail
    refine (HMuch2.out w2 HB2.out).mono ?_
    rintro e w3 ⟨rfl, hb⟩
    have HB3 := Lib.hid (bthen HB2.out hb)
    clear hb
    go_wp2_with fail
    refine (HLongM.out w3 HB3.out).mono ?_
    rintro e w4 ⟨rfl, hb⟩
    have HB4 := Lib.hid (bthen HB3.out hb)
    clear hb
    go_wp2_with fail
    refine (HLd.out w4 HB4.out).mono ?_
    rintro e w5 ⟨xb, yb, rfl, hBo, hln⟩
    obtain ⟨X, ab, rb, hb, inner, vy, ls, hBo, hkeys⟩ := hBo
    generalize hI0 : opsI l ix0 = I at *
    have HIl : Hid (I.all.length ≤ 60) := Lib.hid (by have := HM60.out; omega)
    have HLs : Hid (ls.length ≤ 60) := Lib.hid (by have := HIl.out; have h3 := congrArg List.length hkeys; rw [List.length_map] at h3; omega)
    have HK := Lib.hid hkeys
    have HBo5 := Lib.hid hBo
    have HOk := Lib.hid hBo.ok
    have hclo := ix_clone w5 hBo.ix hBo.ok (by have := HIl.out; omega) (HT.out.below hBo.below h2) (Nat.le_trans h2 hBo.below.size)
    unfold ClonIx at hclo
    have HClo := Lib.hid hclo
    clear hBo hkeys hln hclo hI0
    go_wp2_with fail
    refine HClo.out.mono ?_
    rintro e w6 ⟨cb, J, Xc, abc, rbc, hbc, innc, rfl, hJ, hJok, hJm, hJl, hXX, hown, hcb, hcX, hb6⟩
    have HJ := Lib.hid hJ
    have HJok := Lib.hid hJok
    have HJm := Lib.hid hJm
    have HJl := Lib.hid hJl
    have HXX := Lib.hid hXX
    have HOwn := Lib.hid hown
    have HCb := Lib.hid hcb
    have HCx := Lib.hid hcX
    have HB56 := Lib.hid hb6
    have HBo6 := Lib.hid (HBo5.out.then hb6)
    have k6 := blk_cell HBo6.out.y.hc 0
    simp at k6
    have hsel := (k10_select yb vy ls (.slice Am nm cm) ml w6 k6 HBo6.out.y.slc HBo6.out.y.ok (by have := HLs.out; omega) (fun x hx y hy => right_sz HOk.out (Sx.key x) (by rw [← HK.out]; exact List.mem_map_of_mem hx) y hy) (HM.out.below HBo6.out.below) HZm.out).mono (R' := SelV w6 (selR I ml) (readyE ml)) (fun e w' h => DSelPost.v HOk.out (by rw [← HK.out]; exact h))
    have HSel := Lib.hid hsel
    have HSe := Lib.hid (sel_eq HOk.out HJok.out HJm.out ml)
    clear hJ hJok hJm hJl hXX hown hcb hcX hb6 k6 hsel
    generalize selR I ml = sr at *
    go_wp2_with fail
    refine HSel.out.mono ?_
    rintro e w7 ⟨v7, rfl, hs7, hb7⟩
    obtain ⟨A7, c7, rfl, -⟩ := id hs7
    have HV7 := Lib.hid hs7
    have HB67 := Lib.hid hb7
    have HX6 := Lib.hid (fun k (hk : k ∈ X) => HBo5.out.ix.lt k hk)
    have HStart : Hid (BothX w xb yb w7 X I w7) := Lib.hid ⟨X, ab, rb, hb, inner, vy, ls, HBo6.out.then hb7, HK.out, FrX.below (Below.refl _ _)⟩
    clear hs7 hb7
    go_wp2_with fail
    go_loopw [60] (fun i wr => ∃ (k : Nat) (K : Ix), k ≤ m2 ∧ i = .int .i64 k ∧ BothX w xb yb w7 X K wr ∧ K.all.length ≤ 60 + k) (fun i _ => m2 - (intOf i).toNat)
    case atStart => exact ⟨0, I, Nat.zero_le _, rfl, HStart.out, by have := HIl.out; omega⟩
    case round =>
     obtain ⟨k, K, hk, rfl, hB, hKl⟩ := hrel
     obtain ⟨X', ab', rb', hb', inner', vy', ls', hBoK, hkK, hF⟩ := hB
     have HF := Lib.hid hF
     have HBoK := Lib.hid hBoK
     have HkK := Lib.hid hkK
     have hbel := hBoK.below
     by_cases hlt : k < m2
     ·have hkl : k < l2.length := by rw [← Hm2.out]; exact hlt
      obtain ⟨b, off, e1, z0, z1, z2⟩ := rdO_at (HRd2.out wr hbel) hkl
      cases e1
      have hx := HOk2.out _ (List.getElem_mem hkl)
      have hdo := fun (W : World) (hW : Bo w xb yb [] K X' ab' rb' hb' inner' vy' ls' W) => HDo.out W xb yb K X' ab' rb' hb' inner' vy' ls' l2[k] (List.getElem_mem hkl) HMu2.out hW hkK (by have := HM602.out; have := Hm2.out; omega)
      generalize l2[k] = x at *
      clear hkl
      obtain ⟨cut, ref, lv, lab⟩ := x
      simp only at z0 z1 z2 hx hdo
      have HDo1 := Lib.hid hdo
      have HAll := Lib.hid (add_len K hBoK.ok (⟨cut, ref, lv, lab⟩ : OpV).op)
      obtain ⟨A2, c2, rfl, -⟩ := hx
      generalize lab.length = nl at *
      have hbw := balloc (Below.refl wr.heap.size wr) (.cells #[.bool cut, .int .u64 ref, .slice A2 nl c2] 54)
      have HBw := Lib.hid (hBoK.then hbw)
      have HFw := Lib.hid (hF.trans (FrX.below (X := X') hbw))
      clear hBoK hkK hF hbel hdo hbw
      go_wp2_with fail
      refine (HDo1.out _ HBw.out).mono ?_
      rintro e w8 ⟨rfl, X8, ab8, rb8, hb8, inner8, vy8, ls8, hB8, hk8, hF8⟩
      have H8 : Hid (BothX w xb yb w7 X (opI K (⟨cut, ref, .slice A2 nl c2, lab⟩ : OpV).op) w8) := Lib.hid ⟨X8, ab8, rb8, hb8, inner8, vy8, ls8, hB8, hk8, HFw.out.trans hF8⟩
      clear hB8 hk8 hF8
      go_wp2_with fail
      go_roundw
      case rel => exact ⟨k + 1, _, by omega, by go_num, H8.out, by have := HAll.out; omega⟩
      case measure => simp [intOf] <;> omega
     ·have hJ7 : IxAt w7 Xc cb J abc rbc hbc innc := HJ.out.below HB67.out
      have hs67 := HB67.out.size
      have hs56 := HB56.out.size
      have hJr : IxAt wr Xc cb J abc rbc hbc innc := hJ7.move hF.size (fun j hj hor => hF.same j hj (fun hjX => by
       have hlt5 := HX6.out j hjX
       rcases hor with h3 | h3 | h3
       ·exact h3 (HXX.out j hjX)
       ·have := HCb.out; omega
       ·have := HOwn.out j h3; omega)) (fun _ _ h => h) (fun _ h => h) (fun j hj => Nat.lt_of_lt_of_le (hJ7.lt j hj) hF.size)
      have HJr := Lib.hid hJr
      have HV7r : Hid (SlU wr (fun j => w6.heap.size ≤ j) (.slice A7 sr.length c7) sr) := Lib.hid (HV7.out.move hF.size (fun j hj hD => hF.same j hj (fun hjX => by have := HX6.out j hjX; omega)))
      have hsel := (ix_select _ ml wr hJr HJok.out (by have := HJl.out; have := HIl.out; omega) (right_sz HJok.out) (HM.out.below hbel) HZm.out (HT.out.below hbel h2) (Nat.le_trans h2 hbel.size)).mono (R' := SelV wr (selR J ml) (readyE ml)) (fun e w' h => SelPost.v h)
      rw [HSe.out] at hsel
      have HSel2 := Lib.hid hsel
      have HBr := Lib.hid hbel
      generalize readyE ml = re at *
      clear hBoK hkK hF hbel hJ7 hJr hsel hs67 hs56
      go_wp2_with fail
      refine HSel2.out.mono ?_
      rintro e w8 ⟨v8, rfl, hs8, hb8⟩
      obtain ⟨A8, c8, rfl, -⟩ := id hs8
      have HB8 := Lib.hid (bthen HBr.out hb8)
      have hbz := balloc (Below.refl w8.heap.size w8) (.cells #[.bool false, .map none, .map none, .map none] 75)
      have HNow := Lib.hid (hs8.below hbz)
      have HWas := Lib.hid (HV7r.out.below (bthen hb8 hbz))
      have HBz := Lib.hid (bthen HB8.out hbz)
      have hz : (w8.alloc (.cells #[.bool false, .map none, .map none, .map none] 75)).cell? ⟨w8.heap.size, 0, none⟩ = some (.bool false) := by simp
      have HZ := Lib.hid hz
      clear hs8 hb8 hbz hz
      go_upto_region 19 with fail
      generalize w8.alloc (.cells #[.bool false, .map none, .map none, .map none] 75) = z0 at *
      have HZ0 := Lib.hid (Below.refl z0.heap.size z0)
      have HNo : Hid (∀ W, NilIx none W) := Lib.hid (fun W => .inl rfl)
      have HZz : Hid (∀ W, Below z0.heap.size z0 W → NilIx (some ⟨w8.heap.size, 0, none⟩) W) := Lib.hid (fun W hW => .inr ⟨_, rfl, later hW HZ.out⟩)
      go_wp2_with fail
      refine (nilx_select none _ z0 (HNo.out _)).mono ?_
      rintro e z1 ⟨rfl, hb⟩
      have HZ1 := Lib.hid (bthen HZ0.out hb)
      clear hb
      go_wp2_with fail
      refine (nilx_labels none 1 z1 (HNo.out _)).mono ?_
      rintro e z2 ⟨rfl, hb⟩
      have HZ2 := Lib.hid (bthen HZ1.out hb)
      clear hb
      go_wp2_with fail
      refine (nilx_ref _ _ z2 (HZz.out _ HZ2.out)).mono ?_
      rintro e z3 ⟨rfl, hb⟩
      have HZ3 := Lib.hid (bthen HZ2.out hb)
      clear hb
      have hnu := law_numbers _ _ _ _ z3 (HNow.out.below HZ3.out) (HWas.out.below HZ3.out)
      simp only [decide_true] at hnu
      have HNu := Lib.hid hnu
      clear hnu
      go_wp2_with fail
      refine (HNu.out).mono ?_
      rintro e z4 ⟨rfl, hb⟩
      have HZ4 := Lib.hid (bthen HZ3.out hb)
      clear hb
      go_wp2_with fail
      refine (law_job _ z4).mono ?_
      rintro e z5 ⟨vj, rfl, hsj, hb⟩
      obtain ⟨Aj, cj, rfl, -⟩ := id hsj
      have HZ5 := Lib.hid (bthen HZ4.out hb)
      clear hb hsj
      go_wp2_with fail
      refine (nilx_add none 1 _ z5 (HNo.out _)).mono ?_
      rintro e z6 ⟨rfl, hb⟩
      have HZ6 := Lib.hid (bthen HZ5.out hb)
      clear hb
      go_wp2_with fail
      refine (nilx_cut _ 1 z6 (HZz.out _ HZ6.out)).mono ?_
      rintro e z7 ⟨rfl, hb⟩
      have HZ7 := Lib.hid (bthen HZ6.out hb)
      clear hb
      go_wp2_with fail
      refine (nilx_len none z7 (HNo.out _)).mono ?_
      rintro e z8 ⟨rfl, hb⟩
      have HZ8 := Lib.hid (bthen HZ7.out hb)
      clear hb
      go_wp2_with fail
      refine (nilx_len _ z8 (HZz.out _ HZ8.out)).mono ?_
      rintro e z9 ⟨rfl, hb⟩
      have HZ9 := Lib.hid (bthen HZ8.out hb)
      clear hb
      go_wp2_with fail
      refine (nilx_names none z9 (HNo.out _)).mono ?_
      rintro e z10 ⟨rfl, hb⟩
      have HZ10 := Lib.hid (bthen HZ9.out hb)
      clear hb
      go_wp2_with fail
      refine (nilx_values _ _ z10 (HZz.out _ HZ10.out)).mono ?_
      rintro e z11 ⟨rfl, hb⟩
      have HZ11 := Lib.hid (bthen HZ10.out hb)
      clear hb
      go_wp2_with fail
      refine (nilx_clone none z11 (HNo.out _)).mono ?_
      rintro e z12 ⟨rfl, hb⟩
      have HZ12 := Lib.hid (bthen HZ11.out hb)
      clear hb
      go_wp2_with fail
      refine (nilx_clone _ z12 (HZz.out _ HZ12.out)).mono ?_
      rintro e z13 ⟨rfl, hb⟩
      have HZ13 := Lib.hid (bthen HZ12.out hb)
      clear hb
      go_wp2_with fail
      go_ret
      exact ⟨by simp, bthen HBz.out HZ13.out⟩
end Go.Proofs.YtlhmdgaohonpbaaGreatDoor
