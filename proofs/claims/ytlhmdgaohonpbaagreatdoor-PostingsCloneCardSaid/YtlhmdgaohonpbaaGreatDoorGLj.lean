import Derived.Test.YtlhmdgaohonpbaaGreatDoorGPi
import Derived.Test.YtlhmdgaohonpbaaGreatDoorGNuA
import Derived.Test.YtlhmdgaohonpbaaGreatDoorGSeB
import Derived.Test.YtlhmdgaohonpbaaGreatDoorGIx
set_option linter.unusedSimpArgs false
set_option linter.unusedVariables false
set_option linter.unusedSectionVars false
namespace Go.Proofs.YtlhmdgaohonpbaaGreatDoor
open Go.RowKit Go.Proofs.YtlhmdgaohonpbaaGreatDoor.MapRaw Go.ChangeMaps
def JobPost (w : World) (s : ByteArray) (e : Ending) (w' : World) : Prop := ∃ v, e = .returned v ∧ SlL w' (fun k => w.heap.size ≤ k) v (jobL s) ∧ Below w.heap.size w w'
set_option maxHeartbeats 1000000 in
theorem law_job (s : ByteArray) (w : World) : Calls Tryz.prog 39 #[.string s] w (JobPost w s) := by
 go_enter Tryz.func39, Tryz.ntmps39
 go_wp2
 go_ret
 refine ⟨_, rfl, ⟨_, _, rfl, Nat.le_refl _, by simp [jobL, maxLen], (fun e => by cases e), (fun ad e _ => by cases e; exact ⟨rfl, Nat.le_refl _, by simp⟩), ?_⟩, balloc (Below.refl _ _) _⟩
 intro i x hx
 have hi : i = 0 := by cases i with | zero => rfl | succ i => simp [jobL] at hx
 subst hi
 simp [jobL] at hx
 subst hx
 refine ⟨_, _, rfl, fun j u hj => ?_⟩
 match j, hj with
 | 0, hj => simp [Lb.enc] at hj; subst hj; simp [jJ]
 | 1, hj => simp [Lb.enc] at hj; subst hj; simp
 | j + 2, hj => simp [Lb.enc] at hj
theorem lit_m (w : World) (m : Mt) : Slc 3 Mt.enc (w.alloc (.cells #[.int .i64 m.kind, .string m.n, .string m.v] 68)) (fun _ => True) (.slice (some ⟨w.heap.size, 0, none⟩) 1 1) [m] := by
 refine ⟨_, _, rfl, Nat.le_refl _, by simp [maxLen], (fun e => by cases e), (fun ad e _ => by cases e; exact ⟨rfl, trivial, by simp⟩), ?_⟩
 intro i x hx
 have hi : i = 0 := by cases i with | zero => rfl | succ i => simp at hx
 subst hi
 simp at hx
 subst hx
 refine ⟨_, _, rfl, fun j u hj => ?_⟩
 match j, hj with
 | 0, hj => simp [Mt.enc] at hj; subst hj; simp
 | 1, hj => simp [Mt.enc] at hj; subst hj; simp
 | 2, hj => simp [Mt.enc] at hj; subst hj; simp
 | j + 3, hj => simp [Mt.enc] at hj
theorem lit_u2 (w : World) (a b : Int) : SlU (w.alloc (.cells #[.int .u64 a, .int .u64 b] 34)) (fun _ => True) (.slice (some ⟨w.heap.size, 0, none⟩) 2 2) [a, b] := by
 refine ⟨_, _, rfl, Nat.le_refl _, by simp [maxLen], (fun e => by cases e), (fun ad e _ => by cases e; exact ⟨rfl, trivial, by simp⟩), ?_⟩
 intro i x hx
 match i, hx with
 | 0, hx =>
  simp at hx; subst hx
  refine ⟨_, _, rfl, fun j u hj => ?_⟩
  match j, hj with
  | 0, hj => simp at hj; subst hj; simp
  | j + 1, hj => simp at hj
 | 1, hx =>
  simp at hx; subst hx
  refine ⟨_, _, rfl, fun j u hj => ?_⟩
  match j, hj with
  | 0, hj => simp at hj; subst hj; simp
  | j + 1, hj => simp at hj
 | i + 2, hx => simp at hx
theorem lit_u1 (w : World) (a : Int) : SlU (w.alloc (.cells #[.int .u64 a] 34)) (fun _ => True) (.slice (some ⟨w.heap.size, 0, none⟩) 1 1) [a] := by
 refine ⟨_, _, rfl, Nat.le_refl _, by simp [maxLen], (fun e => by cases e), (fun ad e _ => by cases e; exact ⟨rfl, trivial, by simp⟩), ?_⟩
 intro i x hx
 match i, hx with
 | 0, hx =>
  simp at hx; subst hx
  refine ⟨_, _, rfl, fun j u hj => ?_⟩
  match j, hj with
  | 0, hj => simp at hj; subst hj; simp
  | j + 1, hj => simp at hj
 | i + 1, hx => simp at hx
structure Ixm (w : World) (X : List Nat) (xb : Nat) (I : Ix) (ab rb hb : Nat) (inner : List ((ByteArray × ByteArray) × Nat)) (w' : World) : Prop where
 ix : IxAt w' X xb I ab rb hb inner
 new : ∀ k ∈ X, w.heap.size ≤ k
 xX : xb ∉ X
 xn : w.heap.size ≤ xb
 below : Below w.heap.size w w'
theorem Ixm.then {w w1 w2 : World} {X : List Nat} {xb : Nat} {I : Ix} {ab rb hb : Nat} {inner : List ((ByteArray × ByteArray) × Nat)} (h : Ixm w X xb I ab rb hb inner w1) (hB : Below w1.heap.size w1 w2) : Ixm w X xb I ab rb hb inner w2 := ⟨h.ix.below hB, h.new, h.xX, h.xn, bthen h.below hB⟩
theorem Ixm.out {w w1 : World} {X : List Nat} {xb : Nat} {I : Ix} {ab rb hb : Nat} {inner : List ((ByteArray × ByteArray) × Nat)} (h : Ixm w X xb I ab rb hb inner w1) {α : Type} {sz : Nat} {enc : α → List Value} {W : World} {v : Value} {l : List α} (hv : Slc sz enc W (fun k => w1.heap.size ≤ k) v l) : Slc sz enc W (fun k => k ∉ X) v l :=
 hv.mono (fun k _ hk hX => by have := h.ix.lt k hX; omega)
theorem Ixm.add {w w1 w2 : World} {X : List Nat} {xb : Nat} {I : Ix} {ab rb hb : Nat} {inner : List ((ByteArray × ByteArray) × Nat)} {ref : Int} {l : List Lb} {e : Ending} (h : Ixm w X xb I ab rb hb inner w1) (ha : AddPost w1 X xb I ab rb hb inner ref l e w2) : e = .returned (.int .i64 0) ∧ ∃ X' inner', Ixm w X' xb (addI I ref l) ab rb hb inner' w2 ∧ Apart (fun k => k ∈ X) w1 w2 ∧ (∀ k ∈ X, k ∈ X') ∧ (∀ k ∈ X', k ∈ X ∨ w1.heap.size ≤ k) := by
 obtain ⟨he, inner', X', h1, h2, h3, h4, h5⟩ := ha
 have hA : Apart (fun k => k ∈ X) w1 w2 := h5.mono (fun k _ hk => h.ix.sub k hk)
 have hxl : xb < w1.heap.size := (Array.getElem?_eq_some_iff.1 h.ix.cells).1
 refine ⟨he, X', inner', ⟨h1, fun k hk => (h3 k hk).elim (h.new k) (fun g => Nat.le_trans h.below.size g), fun hk => (h3 xb hk).elim h.xX (fun g => by omega), h.xn, ?_⟩, hA, h2, h3⟩
 refine ⟨hA.os.trans h.below.os, hA.tape.trans h.below.tape, hA.output.trans h.below.output, Nat.le_trans h.below.size hA.size, fun k hk => ?_⟩
 rw [hA.block k (Nat.lt_of_lt_of_le hk h.below.size) (fun hp => by have := h.new k hp; omega)]
 exact h.below.block k hk
theorem szJ (s : ByteArray) (hs : s.size ≤ 10) : SzL (jobL s) := fun x hx => by
 simp [jobL] at hx; subst hx
 exact ⟨by show jJ.size ≤ _; decide, by show s.size ≤ _; simp only [maxLen]; omega⟩
set_option maxRecDepth 100000 in
set_option maxHeartbeats 4000000 in
theorem law10_live (w : World) (hT : Tabs w) (h2 : 2 ≤ w.heap.size) : Calls Tryz.prog 10 #[] w fun e w' => e = .returned (.bool true) ∧ Below w.heap.size w w' := by
 have hnew := postings_new w
 unfold AddNewPost at hnew
 have HNew := Lib.hid hnew
 have HT := Lib.hid hT
 have H2 := Lib.hid h2
 have HJob := Lib.hid fun (s : ByteArray) (W : World) => law_job s W
 unfold JobPost at HJob
 clear hnew hT h2
 go_enter Tryz.func10, Tryz.ntmps10
 go_wp2_with fail
 refine HNew.out.mono ?_
 rintro e w1 ⟨xb, ab, rb, hb, rfl, hix, ⟨n1, n2, n3, n4, n5, n6, n7, n8⟩, hb1⟩
 have HM1 : Hid (Ixm w [ab, rb, hb] xb ix0 ab rb hb [] w1) := Lib.hid ⟨hix, fun k hk => by simp at hk; rcases hk with rfl | rfl | rfl <;> assumption, by simp; exact ⟨n5, n6, n7⟩, n4, hb1⟩
 clear hix n1 n2 n3 n4 n5 n6 n7 n8 hb1
 go_wp2_with fail
 refine (HJob.out jA w1).mono ?_
 rintro e w2 ⟨v2, rfl, hv2, hb2⟩
 obtain ⟨A2, c2, rfl, -⟩ := id hv2
 have HM2 := Lib.hid (HM1.out.then hb2)
 have hadd := ix_add 7 _ _ w2 HM2.out.ix HM2.out.xX (HM1.out.out hv2) (szJ jA (by decide)) (HT.out.below HM2.out.below H2.out) (Nat.le_trans H2.out HM2.out.below.size) job_add1
 have HAdd := Lib.hid hadd
 clear hadd hv2 hb2
 go_wp2_with fail
 refine HAdd.out.mono ?_
 intro e w3 hp
 obtain ⟨rfl, X3, inn3, hm3, -, -, -⟩ := HM2.out.add hp
 have HM3 : Hid (Ixm w X3 xb jI1 ab rb hb inn3 w3) := Lib.hid hm3
 clear hp hm3
 go_wp2_with fail
 refine (HJob.out jB w3).mono ?_
 rintro e w4 ⟨v4, rfl, hv4, hb4⟩
 obtain ⟨A4, c4, rfl, -⟩ := id hv4
 have HM4 := Lib.hid (HM3.out.then hb4)
 have hadd := ix_add 5 _ _ w4 HM4.out.ix HM4.out.xX (HM3.out.out hv4) (szJ jB (by decide)) (HT.out.below HM4.out.below H2.out) (Nat.le_trans H2.out HM4.out.below.size) job_add2
 have HAdd2 := Lib.hid hadd
 clear hadd hv4 hb4
 go_wp2_with fail
 refine HAdd2.out.mono ?_
 intro e w5 hp
 obtain ⟨rfl, X5, inn5, hm5, -, -, -⟩ := HM4.out.add hp
 have HM5 : Hid (Ixm w X5 xb jI2 ab rb hb inn5 w5) := Lib.hid hm5
 clear hp hm5
 go_wp2_with fail
 refine (HJob.out jC w5).mono ?_
 rintro e w6 ⟨v6, rfl, hv6, hb6⟩
 obtain ⟨A6, c6, rfl, -⟩ := id hv6
 have HM6 := Lib.hid (HM5.out.then hb6)
 have hadd := ix_add_refused 7 _ _ w6 HM6.out.ix hv6 (szJ jC (by decide)) (HT.out.below HM6.out.below H2.out) (Nat.le_trans H2.out HM6.out.below.size) (by rw [job_add3]; decide)
 rw [job_add3] at hadd
 have HAdd3 := Lib.hid hadd
 clear hadd hv6 hb6
 go_wp2_with fail
 refine HAdd3.out.mono ?_
 rintro e w7 ⟨rfl, hb7⟩
 have hm7 := HM6.out.then (bthen hb7 (balloc (Below.refl _ _) (.cells #[.int .i64 3, .string jJ, .string jAB] 68)))
 have HM7 := Lib.hid hm7
 have hlit := lit_m w7 mX
 have hsel := ix_select _ [mX] _ HM7.out.ix jI2_ok (by rw [job_len]; decide) (fun p hp x hx => by
  have hp' : p ∈ ([(7, jobL jA), (5, jobL jB)] : List (Int × List Lb)) := hp
  simp at hp'
  rcases hp' with rfl | rfl <;> (simp [jobL] at hx; subst hx) <;> decide) hlit (fun x hx => by simp at hx; subst hx; exact ⟨by decide, by decide⟩) (HT.out.below HM7.out.below H2.out) (Nat.le_trans H2.out HM7.out.below.size)
 unfold SelPost at hsel
 rw [mX_ready, job_select] at hsel
 have HSel := Lib.hid hsel
 clear hsel hlit hm7 hb7
 go_wp2_with fail
 refine HSel.out.mono ?_
 rintro e w8 h8
 have h9 := h8.resolve_right (fun h => absurd rfl h.1)
 obtain ⟨-, v8, rfl, hs8, hb8⟩ := h9
 clear h8
 obtain ⟨A8, c8, rfl, -⟩ := id hs8
 have HM8 := Lib.hid (HM7.out.then hb8)
 have hba : Below w8.heap.size w8 (w8.alloc (.cells #[.int .u64 5, .int .u64 7] 34)) := balloc (Below.refl _ _) _
 have hnum := law_numbers _ _ _ _ _ (hs8.below hba) (lit_u2 w8 5 7)
 have HNum := Lib.hid hnum
 have HM9 := Lib.hid (HM8.out.then hba)
 clear hs8 hb8 hba hnum
 go_wp2_with fail
 refine HNum.out.mono ?_
 rintro e w9 ⟨rfl, hb9⟩
 have HM10 := Lib.hid (HM9.out.then hb9)
 have hln := ix_len w9 HM10.out.ix
 rw [job_len] at hln
 have HLn := Lib.hid hln
 clear hb9 hln
 go_wp2_with fail
 refine HLn.out.mono ?_
 rintro e w10 ⟨rfl, rfl⟩
 have hb11 : Below w9.heap.size w9 (w9.alloc (.cells #[.int .u64 2, .int .u64 1] 34)) := balloc (Below.refl _ _) _
 have hb12 : Below (w9.alloc (.cells #[.int .u64 2, .int .u64 1] 34)).heap.size (w9.alloc (.cells #[.int .u64 2, .int .u64 1] 34)) ((w9.alloc (.cells #[.int .u64 2, .int .u64 1] 34)).alloc (.cells #[.int .u64 2] 34)) := balloc (Below.refl _ _) _
 have hl1 := lit_u1 (w9.alloc (.cells #[.int .u64 2, .int .u64 1] 34)) 2
 have e1 : (w9.alloc (.cells #[.int .u64 2, .int .u64 1] 34)).heap.size = w9.heap.size + 1 := by simp
 rw [e1] at hl1
 have hor := post_or _ _ [2, 1] [2] _ ((lit_u2 w9 2 1).below hb12) (by decide) hl1 (by decide)
 unfold OwnPost at hor
 rw [job_or] at hor
 have HOr := Lib.hid hor
 have HM11 := Lib.hid ((HM10.out.then hb11).then hb12)
 clear hor hb11 hb12 hl1 e1
 go_wp2_with fail
 refine HOr.out.mono ?_
 rintro e w12 ⟨v12, rfl, ho12, hb12⟩
 obtain ⟨A12, c12, rfl⟩ := own_slice ho12
 have HB12 := Lib.hid (HM11.out.then hb12).below
 clear ho12 hb12
 go_wp2_with fail
 go_ret
 exact ⟨rfl, HB12.out⟩
end Go.Proofs.YtlhmdgaohonpbaaGreatDoor
