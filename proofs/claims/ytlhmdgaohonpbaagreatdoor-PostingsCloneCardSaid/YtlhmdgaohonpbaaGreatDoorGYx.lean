import Derived.Test.YtlhmdgaohonpbaaGreatDoorGBz
import Derived.Test.YtlhmdgaohonpbaaGreatDoorGLab
import Derived.Test.YtlhmdgaohonpbaaGreatDoorGPi
import Derived.Test.YtlhmdgaohonpbaaGreatDoorGIx
import Derived.Test.YtlhmdgaohonpbaaGreatDoorGRvB
set_option linter.unusedSimpArgs false
set_option linter.unusedVariables false
set_option linter.unusedSectionVars false
namespace Go.Proofs.YtlhmdgaohonpbaaGreatDoor
open Go.RowKit Go.Proofs.YtlhmdgaohonpbaaGreatDoor.MapRaw Go.ChangeMaps
structure Sx where
 ref : Int
 lv : Value
 lab : List Lb
def Sx.enc (x : Sx) : List Value := [.int .u64 x.ref, x.lv]
def Sx.key (x : Sx) : Ser := (x.ref, x.lab)
def SxOk (w : World) (D : Nat → Prop) (l : List Sx) : Prop := ∀ x ∈ l, SlL w D x.lv x.lab
theorem sx_len (x : Sx) : x.enc.length = 2 := rfl
theorem sx_one {w : World} {D : Nat → Prop} (x : Sx) (h : SlL w D x.lv x.lab) : ∀ u ∈ x.enc, u.oneCell' = true := by
 obtain ⟨A, c, e, -⟩ := h
 intro u hu
 simp [Sx.enc] at hu
 rcases hu with rfl | rfl
 ·rfl
 ·rw [e]; rfl
theorem SxOk.mono {w : World} {D D' : Nat → Prop} {l : List Sx} (h : SxOk w D l) (hD : ∀ k, k < w.heap.size → D k → D' k) : SxOk w D' l := fun x hx => Slc.mono (h x hx) hD
theorem SxOk.move {w w' : World} {D : Nat → Prop} {l : List Sx} (h : SxOk w D l) (hs : w.heap.size ≤ w'.heap.size) (hb : ∀ k, k < w.heap.size → D k → w'.heap[k]? = w.heap[k]?) : SxOk w' D l := fun x hx => Slc.move (h x hx) hs hb
theorem SxOk.below {w w' : World} {D : Nat → Prop} {l : List Sx} (h : SxOk w D l) (hb : Below w.heap.size w w') : SxOk w' D l := fun x hx => (h x hx).below hb
theorem rdSx_at {w : World} {A : Option Addr} {l : List Sx} (h : Rd 2 Sx.enc w A l) {k : Nat} (hk : k < l.length) :
  ∃ b off, A = some ⟨b, off, none⟩ ∧ w.cell? ⟨b, off + k * 2, none⟩ = some (.int .u64 l[k].ref) ∧ w.cell? ⟨b, off + k * 2 + 1, none⟩ = some l[k].lv := by
 obtain ⟨b, off, e, h⟩ := h k l[k] (List.getElem?_eq_getElem hk)
 exact ⟨b, off, e, h 0 _ rfl, h 1 _ rfl⟩
structure YAt (w : World) (X : List Nat) (yb : Nat) (v : Value) (l : List Sx) : Prop where
 hc : w.heap[yb]? = some (.cells #[v] 52 (0, 0))
 own : w.ownsRow 0 96 2 v l.length (l.flatMap Sx.enc)
 blk : ∀ j, v.ownBlock = some j → j ∈ X ∧ j ≠ yb
 mem : yb ∈ X
 ok : SxOk w (fun k => k ∉ X) l
def blksY (yb : Nat) (v : Value) (k : Nat) : Prop := k = yb ∨ v.ownBlock = some k
theorem YAt.slc {w : World} {X : List Nat} {yb : Nat} {v : Value} {l : List Sx} (h : YAt w X yb v l) : Slc 2 Sx.enc w (fun _ => True) v l := (own_slc sx_len rfl h.own).mono (fun _ _ _ => trivial)
theorem YAt.lt {w : World} {X : List Nat} {yb : Nat} {v : Value} {l : List Sx} (h : YAt w X yb v l) : ∀ k, blksY yb v k → k < w.heap.size := fun k hk => by
 rcases hk with rfl | hk
 ·exact (Array.getElem?_eq_some_iff.1 h.hc).1
 ·exact (ownsRow_blk h.own k hk).2
theorem YAt.sub {w : World} {X : List Nat} {yb : Nat} {v : Value} {l : List Sx} (h : YAt w X yb v l) : ∀ k, blksY yb v k → k ∈ X := fun k hk => by
 rcases hk with rfl | hk
 ·exact h.mem
 ·exact (h.blk k hk).1
theorem YAt.turn {w w' : World} {X X' : List Nat} {yb : Nat} {v : Value} {l : List Sx} {P : Nat → Prop} (h : YAt w X yb v l) (hA : Apart P w w') (hP : ∀ k, P k → k ∈ X) (hn : ∀ k, blksY yb v k → ¬ P k) (hX : MoreX w X X') : YAt w' X' yb v l := by
 refine ⟨(hA.block yb (h.lt yb (.inl rfl)) (hn yb (.inl rfl))).trans h.hc, ownsRow_move h.own (fun k hk => hA.block k (h.lt k (.inr hk)) (hn k (.inr hk))), fun j hj => ⟨hX.old j (h.blk j hj).1, (h.blk j hj).2⟩, hX.old _ h.mem, ?_⟩
 exact ((SxOk.mono (D' := fun k => k ∉ X ∧ k ∉ X') h.ok (fun k hk hkX => ⟨hkX, hX.out hk hkX⟩)).move hA.size (fun k hk hD => hA.block k hk (fun hp => hD.1 (hP k hp)))).mono (fun k _ hD => hD.2)
theorem YAt.below {w w' : World} {X : List Nat} {yb : Nat} {v : Value} {l : List Sx} (h : YAt w X yb v l) (hb : Below w.heap.size w w') : YAt w' X yb v l :=
 h.turn (P := fun _ => False) (below_apart hb _) (fun _ h => h.elim) (fun _ _ h => h) (MoreX.refl _ _)
structure YTurned (w : World) (X : List Nat) (yb : Nat) (v : Value) (w' : World) (X' : List Nat) (v' : Value) (L' : List Ser) : Prop where
 at_ : ∃ l', YAt w' X' yb v' l' ∧ l'.map Sx.key = L'
 more : MoreX w X X'
 lt : ∀ k ∈ X', k < w'.heap.size
 apart : Apart (blksY yb v) w w'
 fine : v'.ownBlock = v.ownBlock ∨ ∀ j, v'.ownBlock = some j → w.heap.size ≤ j
theorem YTurned.same {w w' : World} {X : List Nat} {yb : Nat} {v : Value} {l : List Sx} (h : YAt w X yb v l) (hX : ∀ k ∈ X, k < w.heap.size) (hb : Below w.heap.size w w') : YTurned w X yb v w' X v (l.map Sx.key) :=
 ⟨⟨l, h.below hb, rfl⟩, MoreX.refl _ _, fun k hk => Nat.lt_of_lt_of_le (hX k hk) hb.size, below_apart hb _, .inl rfl⟩
abbrev Pairs := List ((ByteArray × ByteArray) × Nat)
def blksI (ab rb hb : Nat) (inner : Pairs) (k : Nat) : Prop := k ∈ [ab, rb, hb] ++ inner.map (·.2)
structure Bo (w0 : World) (xb yb : Nat) (F : List Nat) (I : Ix) (X : List Nat) (ab rb hb : Nat) (inner : Pairs) (v : Value) (l : List Sx) (wr : World) : Prop where
 ix : IxAt wr X xb I ab rb hb inner
 y : YAt wr X yb v l
 ok : IxOk I
 sep : ∀ k, blksY yb v k → ¬ blksI ab rb hb inner k
 fx : ∀ k ∈ F, k ∈ X ∧ ¬ blksI ab rb hb inner k ∧ ¬ blksY yb v k
 xX : xb ∉ X
 new : ∀ k ∈ X, w0.heap.size ≤ k
 xn : w0.heap.size ≤ xb
 below : Below w0.heap.size w0 wr
variable {w0 wr w2 : World} {xb yb : Nat} {F : List Nat} {I I' : Ix} {X X' : List Nat} {ab rb hb : Nat} {inner inner' : Pairs} {v v' : Value} {l : List Sx}
theorem Bo.then (h : Bo w0 xb yb F I X ab rb hb inner v l wr) (hb2 : Below wr.heap.size wr w2) : Bo w0 xb yb F I X ab rb hb inner v l w2 :=
 ⟨h.ix.below hb2, h.y.below hb2, h.ok, h.sep, h.fx, h.xX, h.new, h.xn, bthen h.below hb2⟩
structure XTurned (w : World) (X : List Nat) (xb : Nat) (ab rb hb : Nat) (inner : Pairs) (w' : World) (X' : List Nat) (I' : Ix) (inner' : Pairs) : Prop where
 ix : IxAt w' X' xb I' ab rb hb inner'
 more : MoreX w X X'
 fine : ∀ k ∈ inner'.map (·.2), k ∈ inner.map (·.2) ∨ w.heap.size ≤ k
 apart : Apart (blksI ab rb hb inner) w w'
theorem XTurned.same {w w' : World} (h : IxAt w X xb I ab rb hb inner) (hb2 : Below w.heap.size w w') : XTurned w X xb ab rb hb inner w' X I inner :=
 ⟨h.below hb2, MoreX.refl _ _, fun _ h => .inl h, below_apart hb2 _⟩
theorem XTurned.ofAdd {w w' : World} {ref : Int} {lab : List Lb} {e : Ending} (h : AddPost w X xb I ab rb hb inner ref lab e w') : e = .returned (.int .i64 0) ∧ ∃ X' inner', XTurned w X xb ab rb hb inner w' X' (addI I ref lab) inner' := by
 obtain ⟨he, inner', X', h1, h2, h3, h4, h5⟩ := h
 exact ⟨he, X', inner', h1, ⟨h2, h3⟩, h4, h5⟩
theorem Bo.newOf (h : Bo w0 xb yb F I X ab rb hb inner v l wr) (hm : MoreX wr X X') : ∀ k ∈ X', w0.heap.size ≤ k := fun k hk => (hm.new k hk).elim (h.new k) (fun g => Nat.le_trans h.below.size g)
theorem Bo.xXof (h : Bo w0 xb yb F I X ab rb hb inner v l wr) (hm : MoreX wr X X') : xb ∉ X' := fun hk => (hm.new xb hk).elim h.xX (fun g => by have := (Array.getElem?_eq_some_iff.1 h.ix.cells).1; omega)
theorem Bo.belowOf (h : Bo w0 xb yb F I X ab rb hb inner v l wr) {P : Nat → Prop} (hA : Apart P wr w2) (hP : ∀ k, P k → k ∈ X) : Below w0.heap.size w0 w2 := apart_below h.below hA (fun k hk => h.new k (hP k hk))
structure BoMid (w0 : World) (xb yb : Nat) (F : List Nat) (I : Ix) (X : List Nat) (ab rb hb : Nat) (inner : Pairs) (v : Value) (l : List Sx) (wr : World) : Prop where
 ix : IxAt wr X xb I ab rb hb inner
 y : YAt wr X yb v l
 sep : ∀ k, blksY yb v k → ¬ blksI ab rb hb inner k
 fx : ∀ k ∈ F, k ∈ X ∧ ¬ blksI ab rb hb inner k ∧ ¬ blksY yb v k
 xX : xb ∉ X
 new : ∀ k ∈ X, w0.heap.size ≤ k
 xn : w0.heap.size ≤ xb
 below : Below w0.heap.size w0 wr
theorem BoMid.then (h : BoMid w0 xb yb F I X ab rb hb inner v l wr) (hb2 : Below wr.heap.size wr w2) : BoMid w0 xb yb F I X ab rb hb inner v l w2 :=
 ⟨h.ix.below hb2, h.y.below hb2, h.sep, h.fx, h.xX, h.new, h.xn, bthen h.below hb2⟩
theorem BoMid.with (h : BoMid w0 xb yb F I X ab rb hb inner v l wr) (hk : IxOk I) : Bo w0 xb yb F I X ab rb hb inner v l wr := ⟨h.ix, h.y, hk, h.sep, h.fx, h.xX, h.new, h.xn, h.below⟩
theorem BoMid.ofBo (h : Bo w0 xb yb F I X ab rb hb inner v l wr) : BoMid w0 xb yb F I X ab rb hb inner v l wr := ⟨h.ix, h.y, h.sep, h.fx, h.xX, h.new, h.xn, h.below⟩
theorem Bo.turnX (h : Bo w0 xb yb F I X ab rb hb inner v l wr) (ht : XTurned wr X xb ab rb hb inner w2 X' I' inner') : BoMid w0 xb yb F I' X' ab rb hb inner' v l w2 := by
 have hsub : ∀ k, blksI ab rb hb inner k → k ∈ X := fun k hk => h.ix.sub k hk
 have hno : ∀ k, k < wr.heap.size → ¬ blksI ab rb hb inner k → ¬ blksI ab rb hb inner' k := fun k hk hn hm => by
  rcases List.mem_append.1 hm with hm | hm
  ·exact hn (List.mem_append_left _ hm)
  ·rcases ht.fine k hm with hm | hm
   ·exact hn (List.mem_append_right _ hm)
   ·omega
 exact ⟨ht.ix, h.y.turn ht.apart hsub (fun k hk hk2 => h.sep k hk hk2) ht.more, fun k hk => hno k (h.y.lt k hk) (h.sep k hk), fun k hk => ⟨ht.more.old k (h.fx k hk).1, hno k (h.ix.lt k (h.fx k hk).1) (h.fx k hk).2.1, (h.fx k hk).2.2⟩, h.xXof ht.more, h.newOf ht.more, h.xn, h.belowOf ht.apart hsub⟩
theorem BoMid.turnY {L' : List Ser} (h : BoMid w0 xb yb F I X ab rb hb inner v l wr) (ht : YTurned wr X yb v w2 X' v' L') : ∃ l', BoMid w0 xb yb F I X' ab rb hb inner v' l' w2 ∧ l'.map Sx.key = L' := by
 obtain ⟨l', g1, g2⟩ := ht.at_
 have hfn : ∀ k, blksY yb v' k → blksY yb v k ∨ wr.heap.size ≤ k := fun k hk => by
  rcases hk with rfl | hk
  ·exact .inl (.inl rfl)
  ·rcases ht.fine with hf | hf
   ·exact .inl (.inr (hf ▸ hk))
   ·exact .inr (hf k hk)
 refine ⟨l', ⟨h.ix.move ht.apart.size (fun k hk hor => ht.apart.block k hk (fun hy => ?_)) (fun k hk hX => ht.more.out hk hX) ht.more.old ht.lt, g1, fun k hk hi => ?_, fun k hk => ⟨ht.more.old k (h.fx k hk).1, (h.fx k hk).2.1, fun hy => ?_⟩, ?_, ?_, h.xn, ?_⟩, g2⟩
 ·rcases hor with h1 | h1 | h1
  ·exact h1 (h.y.sub k hy)
  ·subst h1; exact h.xX (h.y.sub _ hy)
  ·exact h.sep k hy h1
 ·rcases hfn k hk with h1 | h1
  ·exact h.sep k h1 hi
  ·have := h.ix.lt k (h.ix.sub k hi); omega
 ·rcases hfn k hy with h1 | h1
  ·exact (h.fx k hk).2.2 h1
  ·have := h.ix.lt k (h.fx k hk).1; omega
 ·exact fun hk => (ht.more.new xb hk).elim h.xX (fun g => by have := (Array.getElem?_eq_some_iff.1 h.ix.cells).1; omega)
 ·exact fun k hk => (ht.more.new k hk).elim (h.new k) (fun g => Nat.le_trans h.below.size g)
 ·exact apart_below h.below ht.apart (fun k hk => h.new k (h.y.sub k hk))
theorem Bo.turnF (h : Bo w0 xb yb F I X ab rb hb inner v l wr) (hA : Apart (fun k => k ∈ F) wr w2) : Bo w0 xb yb F I X ab rb hb inner v l w2 := by
 have hsub : ∀ k, k ∈ F → k ∈ X := fun k hk => (h.fx k hk).1
 refine ⟨h.ix.move hA.size (fun k hk hor => hA.block k hk (fun hf => ?_)) (fun _ _ h => h) (fun _ h => h) (fun k hk => Nat.lt_of_lt_of_le (h.ix.lt k hk) hA.size), h.y.turn hA hsub (fun k hk hf => (h.fx k hf).2.2 hk) (MoreX.refl _ _), h.ok, h.sep, h.fx, h.xX, h.new, h.xn, h.belowOf hA hsub⟩
 rcases hor with h1 | h1 | h1
 ·exact h1 (hsub k hf)
 ·subst h1; exact h.xX (hsub _ hf)
 ·exact (h.fx k hf).2.1 h1
theorem Bo.addF (h : Bo w0 xb yb F I X ab rb hb inner v l wr) {g : Nat} (hb2 : Below wr.heap.size wr w2) (hg : wr.heap.size ≤ g) (hg2 : g < w2.heap.size) : Bo w0 xb yb (g :: F) I (g :: X) ab rb hb inner v l w2 := by
 have hm : MoreX wr X (g :: X) := ⟨fun k hk => List.mem_cons_of_mem _ hk, fun k hk => (List.mem_cons.1 hk).elim (fun e => .inr (e ▸ hg)) .inl⟩
 refine ⟨h.ix.move hb2.size (fun k hk _ => hb2.block k hk) (fun k hk hX => hm.out hk hX) hm.old (fun k hk => ?_), h.y.turn (P := fun _ => False) (below_apart hb2 _) (fun _ h => h.elim) (fun _ _ h => h) hm, h.ok, h.sep, fun k hk => ?_, h.xXof hm, h.newOf hm, h.xn, bthen h.below hb2⟩
 ·rcases List.mem_cons.1 hk with rfl | hk
  ·exact hg2
  ·exact Nat.lt_of_lt_of_le (h.ix.lt k hk) hb2.size
 ·rcases List.mem_cons.1 hk with rfl | hk
  ·exact ⟨List.mem_cons_self .., fun hi => by have := h.ix.lt k (h.ix.sub k hi); omega, fun hy => by have := h.y.lt k hy; omega⟩
  ·exact ⟨List.mem_cons_of_mem _ (h.fx k hk).1, (h.fx k hk).2⟩
theorem Bo.forget (h : Bo w0 xb yb F I X ab rb hb inner v l wr) : Bo w0 xb yb [] I X ab rb hb inner v l wr := ⟨h.ix, h.y, h.ok, h.sep, fun k hk => by simp at hk, h.xX, h.new, h.xn, h.below⟩
end Go.Proofs.YtlhmdgaohonpbaaGreatDoor

namespace Go.Proofs.YtlhmdgaohonpbaaGreatDoor
open Go.RowKit Go.Proofs.YtlhmdgaohonpbaaGreatDoor.MapRaw Go.ChangeMaps
def refX (r : Int) (x : Sx) : Bool := decide (x.ref = r)
def labXx (q : List Lb) (x : Sx) : Bool := decide (x.lab = q)
theorem idx_key (l : List Sx) (r : Int) : l.findIdx? (refX r) = (l.map Sx.key).findIdx? (refB10 r) := by rw [List.findIdx?_map]; rfl
set_option maxRecDepth 100000 in
set_option maxHeartbeats 1000000 in
theorem ref10_place {D D' : Nat → Prop} (yb : Nat) (v : Value) (l : List Sx) (r : Int) (w : World) (hc : w.cell? ⟨yb, 0, none⟩ = some v) (hv : Slc 2 Sx.enc w D v l) (hl : SxOk w D' l) :
  Calls Tryz.prog 57 #[.pointer (some ⟨yb, 0, none⟩), .int .u64 r] w fun e w' => e = .returned (.int .i64 (ixF (l.findIdx? (refX r)))) ∧ Below w.heap.size w w' := by
 obtain ⟨A, c, rfl, p1, p2, p3, p4, p5⟩ := hv
 have HR := Lib.hid p5
 have HL := Lib.hid hl
 have hm : l.length ≤ 9223372036854775807 := by simp only [maxLen] at p2; omega
 obtain ⟨n, hn⟩ : ∃ n, n = l.length := ⟨_, rfl⟩
 have Hn := Lib.hid hn
 rw [← hn] at hm hc
 clear p1 p2 p3 p4 p5 hn hl
 go_enter Tryz.func57, Tryz.ntmps57
 go_wp2
 go_loopw [12] (fun i wr => ∃ k : Nat, k ≤ n ∧ i = .int .i64 k ∧ NoTo (refX r) l k ∧ Below w.heap.size w wr) (fun i _ => n - (intOf i).toNat)
 case atStart => exact ⟨0, Nat.zero_le _, rfl, NoTo.start _ _, Below.refl _ _⟩
 case round =>
  obtain ⟨k, hk, rfl, hE, hB⟩ := hrel
  by_cases hlt : k < n
  ·have hkl : k < l.length := by rw [← Hn.out]; exact hlt
   obtain ⟨b, off, rfl, z0, z1⟩ := rdSx_at (Rd.below HR.out hB) hkl
   have hx := HL.out _ (List.getElem_mem hkl)
   have hRd := hE.round hkl
   generalize l[k] = x at *
   obtain ⟨xr, lv, lab⟩ := x
   simp only at z0 z1 hx hRd
   obtain ⟨A2, c2, rfl, -⟩ := hx
   generalize lab.length = n2 at *
   have HBr := Lib.hid hB
   have HBw : Hid (Below wr.heap.size wr (wr.alloc (.cells #[.int .u64 xr, .slice A2 n2 c2] 96))) := Lib.hid (balloc (Below.refl _ _) _)
   clear hE hB
   rcases hRd with ⟨g1, g2⟩ | ⟨g1, g2⟩
   ·have G2 := Lib.hid g2
    have he : (xr == r) = true := by simpa [refX] using g1
    clear g1 g2
    go_wp2
    go_ret
    exact ⟨by rw [G2.out]; rfl, bthen HBr.out HBw.out⟩
   ·have G2 := Lib.hid g2
    have he : (xr == r) = false := by simpa [refX] using g1
    clear g1 g2
    go_wp2
    go_roundw
    case rel => exact ⟨k + 1, by omega, by go_num, G2.out, bthen HBr.out HBw.out⟩
    case measure => simp [intOf] <;> omega
  ·have hEd := Lib.hid (hE.done (by rw [← Hn.out]; exact hlt))
   have HBr := Lib.hid hB
   clear hE hB
   go_wp2
   go_ret
   exact ⟨by rw [hEd.out]; rfl, HBr.out⟩
def foundR (l : List Sx) (q : List Lb) : Option Int := ((l.findIdx? (labXx q)).bind fun i => l[i]?).map Sx.ref
theorem found_num (l : List Sx) (q : List Lb) : foundR l q = numL (l.map Sx.key) q := by
 unfold foundR numL
 induction l with
 | nil => rfl
 | cons x l ih =>
  rw [List.findIdx?_cons, List.map_cons, List.find?_cons]
  unfold labXx labB10 at *
  by_cases h : x.lab = q
  ·rw [decide_eq_true h]
   have : decide ((Sx.key x).2 = q) = true := decide_eq_true h
   rw [this]; rfl
  ·rw [decide_eq_false h]
   have : decide ((Sx.key x).2 = q) = false := decide_eq_false h
   rw [this, ← ih]
   cases l.findIdx? (fun x => decide (x.lab = q)) <;> simp
set_option maxRecDepth 100000 in
set_option maxHeartbeats 1000000 in
theorem ref10_ref {D D' D2 : Nat → Prop} (yb : Nat) (v qv : Value) (l : List Sx) (q : List Lb) (w : World) (hc : w.cell? ⟨yb, 0, none⟩ = some v) (hv : Slc 2 Sx.enc w D v l) (hl : SxOk w D' l) (hq : SlL w D2 qv q) :
  Calls Tryz.prog 29 #[.pointer (some ⟨yb, 0, none⟩), qv] w fun e w' => e = .returned (.tuple #[.int .u64 ((foundR l q).getD 0), .bool (foundR l q).isSome]) ∧ Below w.heap.size w w' := by
 obtain ⟨A, c, rfl, p1, p2, p3, p4, p5⟩ := hv
 have HR := Lib.hid p5
 have HL := Lib.hid hl
 have HQ := Lib.hid hq
 obtain ⟨A9, c9, rfl, -⟩ := hq
 generalize q.length = n9 at *
 have hm : l.length ≤ 9223372036854775807 := by simp only [maxLen] at p2; omega
 obtain ⟨n, hn⟩ : ∃ n, n = l.length := ⟨_, rfl⟩
 have Hn := Lib.hid hn
 rw [← hn] at hm hc
 have HF : Hid (∀ i, l.findIdx? (labXx q) = some i → ∀ (hi : i < l.length), foundR l q = some l[i].ref) := Lib.hid (fun i h hi => by unfold foundR; rw [h]; simp [List.getElem?_eq_getElem hi])
 have HF0 : Hid (l.findIdx? (labXx q) = none → foundR l q = none) := Lib.hid (fun h => by unfold foundR; rw [h]; rfl)
 generalize foundR l q = res at *
 clear p1 p2 p3 p4 p5 hn hl
 go_enter Tryz.func29, Tryz.ntmps29
 go_wp2
 go_loopw [13] (fun i wr => ∃ k : Nat, k ≤ n ∧ i = .int .i64 k ∧ NoTo (labXx q) l k ∧ Below w.heap.size w wr) (fun i _ => n - (intOf i).toNat)
 case atStart => exact ⟨0, Nat.zero_le _, rfl, NoTo.start _ _, Below.refl _ _⟩
 case round =>
  obtain ⟨k, hk, rfl, hE, hB⟩ := hrel
  by_cases hlt : k < n
  ·have hkl : k < l.length := by rw [← Hn.out]; exact hlt
   obtain ⟨b, off, rfl, z0, z1⟩ := rdSx_at (Rd.below HR.out hB) hkl
   have hx := HL.out _ (List.getElem_mem hkl)
   have hRd := hE.round hkl
   have hf := fun g => HF.out k g hkl
   generalize l[k] = x at *
   obtain ⟨xr, lv, lab⟩ := x
   simp only at z0 z1 hx hRd hf
   have hsame := lab_same w hx HQ.out
   have HSame := Lib.hid hsame
   obtain ⟨A2, c2, rfl, -⟩ := hx
   generalize lab.length = n2 at *
   have HBr := Lib.hid hB
   have HBw : Hid (Below wr.heap.size wr (wr.alloc (.cells #[.int .u64 xr, .slice A2 n2 c2] 96))) := Lib.hid (balloc (Below.refl _ _) _)
   have y0 : (wr.alloc (.cells #[.int .u64 xr, .slice A2 n2 c2] 96)).cell? ⟨wr.heap.size, 0, none⟩ = some (.int .u64 xr) := by simp
   have Y0 := Lib.hid y0
   clear hE hB hsame y0
   rcases hRd with ⟨g1, g2⟩ | ⟨g1, g2⟩
   ·have G2 : Hid (res = some xr) := Lib.hid (hf g2)
    have he : decide (lab = q) = true := g1
    rw [he] at HSame
    clear g1 g2 he hf
    go_wp2_with fail
    refine (HSame.out _ (bthen HBr.out HBw.out)).mono ?_
    rintro e w1 ⟨rfl, hb⟩
    have HB1 := Lib.hid (bthen (bthen HBr.out HBw.out) hb)
    have y1 := later hb Y0.out
    clear hb
    go_wp2
    go_ret2
    exact ⟨by rw [G2.out]; rfl, HB1.out⟩
   ·have G2 := Lib.hid g2
    have he : decide (lab = q) = false := g1
    rw [he] at HSame
    clear g1 g2 he hf
    go_wp2_with fail
    refine (HSame.out _ (bthen HBr.out HBw.out)).mono ?_
    rintro e w1 ⟨rfl, hb⟩
    have HB1 := Lib.hid (bthen (bthen HBr.out HBw.out) hb)
    clear hb
    go_wp2
    go_roundw
    case rel => exact ⟨k + 1, by omega, by go_num, G2.out, HB1.out⟩
    case measure => simp [intOf] <;> omega
  ·have hEd : Hid (res = none) := Lib.hid (HF0.out (hE.done (by rw [← Hn.out]; exact hlt)))
   have HBr := Lib.hid hB
   clear hE hB
   go_wp2
   go_ret2
   exact ⟨by rw [hEd.out]; rfl, HBr.out⟩
end Go.Proofs.YtlhmdgaohonpbaaGreatDoor

namespace Go.Proofs.YtlhmdgaohonpbaaGreatDoor
open Go.RowKit Go.Proofs.YtlhmdgaohonpbaaGreatDoor.MapRaw Go.ChangeMaps
theorem info_sx : (Tryz.prog.info? 96).map (fun i => (i.zero, i.size, i.bytes)) = some (some (.agg #[.int .u64 0, .slice none 0 0]), 2, 32) := by kernel_rfl
theorem info_lb10 : (Tryz.prog.info? 80).map (fun i => (i.zero, i.size, i.bytes)) = some (some (.agg #[.string ⟨#[]⟩, .string ⟨#[]⟩]), 2, 32) := by kernel_rfl
def moreY (X : List Nat) (v : Value) : List Nat := match v.ownBlock with | some j => j :: X | none => X
theorem mem_moreY {X : List Nat} {v : Value} {k : Nat} : k ∈ moreY X v ↔ v.ownBlock = some k ∨ k ∈ X := by
 unfold moreY
 cases h : v.ownBlock with
 | none => simp
 | some j => simp [eq_comm]
section
variable {w W W1 : World} {X : List Nat} {yb : Nat} {v v1 ov : Value} {l : List Sx} {r : Int} {q : List Lb}
theorem YTurned.push (h : YAt w X yb v l) (hX : ∀ k ∈ X, k < w.heap.size) (hW : Below w.heap.size w W) (ho : SlL W (fun k => w.heap.size ≤ k) ov q) (hO : W1.ownsRow 0 96 2 v1 (l.length + 1) (l.flatMap Sx.enc ++ [.int .u64 r, ov])) (hg : W.grownBy W1 v.ownBlock) (hat : v1.ownBlock = v.ownBlock ∨ v1.ownBlock = some W.heap.size) :
  ∃ X', YTurned w X yb v (W1.setCell ⟨yb, 0, none⟩ v1) X' v1 (l.map Sx.key ++ [(r, q)]) := by
 have hyl := h.lt yb (.inl rfl)
 have hvl : ∀ j, v.ownBlock = some j → j < w.heap.size ∧ j ≠ yb ∧ j ∈ X := fun j hj => ⟨h.lt j (.inr hj), (h.blk j hj).2, (h.blk j hj).1⟩
 have hws := hW.size
 have hA : Apart (blksY yb v) w (W1.setCell ⟨yb, 0, none⟩ v1) := ((below_apart hW (blksY yb v)).grown hg (fun k hk => .inl (.inr hk))).setC ⟨yb, 0, none⟩ (.inl (.inl rfl)) v1
 have hv1 : ∀ j, v1.ownBlock = some j → j ≠ yb ∧ (j ∈ X ∨ j = W.heap.size) := fun j hj => by
  rcases hat with e | e
  ·rw [e] at hj; exact ⟨(hvl j hj).2.1, .inl (hvl j hj).2.2⟩
  ·rw [e] at hj; cases hj; exact ⟨by omega, .inr rfl⟩
 have hmore : MoreX w X (moreY X v1) := ⟨fun k hk => mem_moreY.2 (.inr hk), fun k hk => by
  rcases mem_moreY.1 hk with e | e
  ·rcases (hv1 k e).2 with g | g
   ·exact .inl g
   ·exact .inr (by omega)
  ·exact .inl e⟩
 have hyb1 : W1.heap[yb]? = some (.cells #[v] 52 (0, 0)) := (hg.block yb (by omega) (fun e => (hvl yb e.symm).2.1 rfl)).trans ((hW.block yb hyl).trans h.hc)
 have hlt : ∀ k ∈ moreY X v1, k < (W1.setCell ⟨yb, 0, none⟩ v1).heap.size := fun k hk => by
  have hs : (W1.setCell ⟨yb, 0, none⟩ v1).heap.size = W1.heap.size := by simp [World.setCell]
  rw [hs]
  rcases mem_moreY.1 hk with e | e
  ·exact (ownsRow_blk hO k e).2
  ·have := hX k e; have := hg.size; omega
 refine ⟨moreY X v1, ⟨l ++ [(⟨r, ov, q⟩ : Sx)], ⟨?_, ?_, fun j hj => ⟨mem_moreY.2 (.inl hj), (hv1 j hj).1⟩, mem_moreY.2 (.inr h.mem), ?_⟩, by simp [Sx.key]⟩, hmore, hlt, hA, hat.imp id (fun e j hj => by rw [e] at hj; cases hj; exact hws)⟩
 ·rw [setCell_blk (i := 0) v1 hyb1]; rfl
 ·have h2 : W1.ownsRow 0 96 2 v1 (l ++ [(⟨r, ov, q⟩ : Sx)]).length ((l ++ [(⟨r, ov, q⟩ : Sx)]).flatMap Sx.enc) := by simpa [Sx.enc] using hO
  exact ownsRow_move h2 (fun k hk => Below.heap_setCell _ _ _ _ (show k ≠ yb from (hv1 k hk).1))
 ·intro x hx
  rcases List.mem_append.1 hx with hx | hx
  ·exact ((Slc.mono (D' := fun k => k ∉ X ∧ k ∉ moreY X v1) (h.ok x hx) (fun k hk hkX => ⟨hkX, hmore.out hk hkX⟩)).move hA.size (fun k hk hD => hA.block k hk (fun hp => hD.1 (h.sub k hp)))).mono (fun k _ hD => hD.2)
  ·simp at hx; subst hx
   refine ((Slc.mono (D' := fun k => w.heap.size ≤ k ∧ k < W.heap.size) ho (fun k hk hD => ⟨hD, hk⟩)).move (w' := W1.setCell ⟨yb, 0, none⟩ v1) (by have := hg.size; simpa [World.setCell] using this) (fun k hk hD => ?_)).mono (fun k _ hD hm => ?_)
   ·rw [Below.heap_setCell _ _ _ _ (show k ≠ yb by omega)]
    exact hg.block k hk (fun e => by have := (hvl k e.symm).1; omega)
   ·rcases mem_moreY.1 hm with e | e
    ·rcases (hv1 k e).2 with g | g
     ·have := hX k g; omega
     ·omega
    ·have := hX k e; omega
end
def AddYPost (w : World) (X : List Nat) (yb : Nat) (v : Value) (n : Int) (L : List Ser) (e : Ending) (w' : World) : Prop := e = .returned (.int .i64 n) ∧ ∃ X' v', YTurned w X yb v w' X' v' L
set_option maxRecDepth 100000 in
set_option maxHeartbeats 2000000 in
theorem ref10_add {D : Nat → Prop} (X : List Nat) (yb : Nat) (v qv : Value) (l : List Sx) (r : Int) (q : List Lb) (w : World) (h : YAt w X yb v l) (hX : ∀ k ∈ X, k < w.heap.size) (hq : SlL w D qv q) (hz : SzL q) (hn : l.length ≤ 1000000) :
  Calls Tryz.prog 56 #[.pointer (some ⟨yb, 0, none⟩), .int .u64 r, qv] w (AddYPost w X yb v (addY (l.map Sx.key) r q) (if addY (l.map Sx.key) r q = 0 then l.map Sx.key ++ [(r, q)] else l.map Sx.key)) := by
 have c0 := blk_cell h.hc 0
 simp at c0
 have HSame := Lib.hid fun (W : World) (hW : Below w.heap.size w W) => YTurned.same h hX hW
 have HPush := Lib.hid fun (W W1 : World) (v1 ov : Value) => YTurned.push (W := W) (W1 := W1) (v1 := v1) (ov := ov) (r := r) (q := q) h hX
 have HRight : Hid (∀ W : World, Below w.heap.size w W → Calls Tryz.prog 16 #[qv] W fun e w' => e = .returned (.int .i64 (rightF q)) ∧ Below W.heap.size W w') := Lib.hid (fun W hW => by
  obtain ⟨A, c, rfl, p1, p2, -, -, p5⟩ := hq
  exact ref05_right A c q W (Rd.below p5 hW) (Nat.le_trans p1 p2) hz)
 have HRef := Lib.hid fun (W : World) (hW : Below w.heap.size w W) => ref10_ref yb v qv l q W (later hW c0) (h.slc.below hW) (h.ok.below hW) (hq.below hW)
 have HPlace := Lib.hid fun (W : World) (hW : Below w.heap.size w W) => ref10_place yb v l r W (later hW c0) (h.slc.below hW) (h.ok.below hW)
 have HQ := Lib.hid hq
 have HY := Lib.hid h
 have HC0 := Lib.hid c0
 unfold AddYPost
 unfold addY
 rw [← found_num, ← idx_key, List.length_map]
 obtain ⟨Aq, cq, rfl, -⟩ := hq
 obtain ⟨Av, cv, rfl, -⟩ := h.slc
 generalize hnq : q.length = nq at *
 have HNq := Lib.hid hnq
 generalize hnl : l.length = nl at *
 have HNl := Lib.hid hnl
 clear h c0 hnq hnl hz
 by_cases h1 : rightF q = 0
 ·rw [if_neg (by simpa using h1)]
  have H16 : Hid (nq ≤ 16) := Lib.hid (by rw [← HNq.out]; exact (right_ok h1).1)
  cases hf : foundR l q with
  | some m =>
   rw [hf] at HRef
   rw [if_pos (.inl rfl), if_neg (by decide)]
   rw [h1] at HRight
   simp only [Option.getD_some, Option.isSome_some] at HRef
   clear h1 hf
   go_enter Tryz.func56, Tryz.ntmps56
   go_wp2_with fail
   refine (HRight.out w (Below.refl _ _)).mono ?_
   rintro e w1 ⟨rfl, hb⟩
   have HB1 := Lib.hid hb
   clear hb
   go_wp2_with fail
   refine (HRef.out w1 HB1.out).mono ?_
   rintro e w2 ⟨rfl, hb⟩
   have HB2 := Lib.hid (bthen HB1.out hb)
   clear hb
   go_wp2_with fail
   go_ret
   exact ⟨rfl, X, _, HSame.out w2 HB2.out⟩
  | none =>
   rw [hf] at HRef
   rw [h1] at HRight
   simp only [Option.getD_none, Option.isSome_none] at HRef
   cases hp : l.findIdx? (refX r) with
   | some i =>
    rw [hp] at HPlace
    rw [if_pos (.inr rfl), if_neg (by decide)]
    have HPl : Hid (∀ W : World, Below w.heap.size w W → Calls Tryz.prog 57 #[.pointer (some ⟨yb, 0, none⟩), .int .u64 r] W fun e w' => e = .returned (.int .i64 (i : Int)) ∧ Below W.heap.size W w') := HPlace
    clear h1 hf hp HPlace
    go_enter Tryz.func56, Tryz.ntmps56
    go_wp2_with fail
    refine (HRight.out w (Below.refl _ _)).mono ?_
    rintro e w1 ⟨rfl, hb⟩
    have HB1 := Lib.hid hb
    clear hb
    go_wp2_with fail
    refine (HRef.out w1 HB1.out).mono ?_
    rintro e w2 ⟨rfl, hb⟩
    have HB2 := Lib.hid (bthen HB1.out hb)
    clear hb
    go_wp2_with fail
    refine (HPl.out w2 HB2.out).mono ?_
    rintro e w3 ⟨rfl, hb⟩
    have HB3 := Lib.hid (bthen HB2.out hb)
    clear hb
    go_wp2_with fail
    go_ret
    exact ⟨rfl, X, _, HSame.out w3 HB3.out⟩
   | none =>
    rw [hp] at HPlace
    rw [if_neg (by simp)]
    have HPl : Hid (∀ W : World, Below w.heap.size w W → Calls Tryz.prog 57 #[.pointer (some ⟨yb, 0, none⟩), .int .u64 r] W fun e w' => e = .returned (.int .i64 (-1)) ∧ Below W.heap.size W w') := HPlace
    clear h1 hf hp HPlace
    by_cases h4 : 4096 ≤ nl
    ·rw [if_pos h4, if_neg (by decide)]
     have hd : decide ((nl : Int) ≥ 4096) = true := decide_eq_true (by omega)
     have hd' : decide ((4096 : Int) ≤ (nl : Int)) = true := decide_eq_true (by omega)
     clear h4
     go_enter Tryz.func56, Tryz.ntmps56
     go_wp2_with fail
     refine (HRight.out w (Below.refl _ _)).mono ?_
     rintro e w1 ⟨rfl, hb⟩
     have HB1 := Lib.hid hb
     clear hb
     go_wp2_with fail
     refine (HRef.out w1 HB1.out).mono ?_
     rintro e w2 ⟨rfl, hb⟩
     have HB2 := Lib.hid (bthen HB1.out hb)
     clear hb
     go_wp2_with fail
     refine (HPl.out w2 HB2.out).mono ?_
     rintro e w3 ⟨rfl, hb⟩
     have HB3 := Lib.hid (bthen HB2.out hb)
     have c3 := later HB3.out HC0.out
     clear hb
     go_wp2_with fail
     go_ret
     exact ⟨rfl, X, _, HSame.out w3 HB3.out⟩
    ·rw [if_neg h4, if_pos rfl]
     have hd : decide ((nl : Int) ≥ 4096) = false := decide_eq_false (by omega)
     have hd' : decide ((4096 : Int) ≤ (nl : Int)) = false := decide_eq_false (by omega)
     have hq9 : nq ≤ 16 := H16.out
     clear h4
     go_enter Tryz.func56, Tryz.ntmps56
     go_wp2_with fail
     refine (HRight.out w (Below.refl _ _)).mono ?_
     rintro e w1 ⟨rfl, hb⟩
     have HB1 := Lib.hid hb
     clear hb
     go_wp2_with fail
     refine (HRef.out w1 HB1.out).mono ?_
     rintro e w2 ⟨rfl, hb⟩
     have HB2 := Lib.hid (bthen HB1.out hb)
     clear hb
     go_wp2_with fail
     refine (HPl.out w2 HB2.out).mono ?_
     rintro e w3 ⟨rfl, hb⟩
     have HB3 := Lib.hid (bthen HB2.out hb)
     have c3 := later HB3.out HC0.out
     have HBa : Hid (Below w3.heap.size w3 (w3.alloc (.cells #[] 80))) := Lib.hid (balloc (Below.refl _ _) _)
     have hsrc := (HQ.out.below (bthen HB3.out HBa.out)).src lb_len lb_one (by decide)
     rw [HNq.out] at hsrc
     have HSrc := Lib.hid hsrc
     have HO := Lib.hid (World.ownsRow_lit (base := w3.heap.size) (e := 80) (size := 2) w3 #[] 0 (Nat.le_refl _) (by decide) rfl)
     clear hb hsrc
     go_wp2_with (at_builtin; refine wpList_app (w0 := w3) w3.heap.size rfl _ _ 29 80 _ 2 32 nq (q.flatMap Lb.enc) rfl Tryz.underlying29 info_lb10 rfl (by decide) (by decide) (.slice (some ⟨w3.heap.size, 0, none⟩) 0 0) 0 [] ?hs1 ?hx1 HO.out HBa.out (by simp) (by omega) ?_)
     try (case hs1 => rfl)
     case hx1 => exact HSrc.out
     intro v4 w4 hO4 hB4 hg4 hat4
     try simp only [Nat.zero_add, List.nil_append] at hO4
     obtain ⟨A4, c4, rfl⟩ := own_slice hO4
     have HB4 := Lib.hid (bthen HB3.out hB4)
     have hs4 := (own_slc lb_len HNq.out.symm hO4).mono (D' := fun k => w.heap.size ≤ k) (fun k _ hk => Nat.le_trans HB3.out.size hk)
     have HS4 := Lib.hid hs4
     have c4' := later hB4 c3
     have HB5 : Hid (Below w4.heap.size w4 (w4.alloc (.cells #[.int .u64 r, .slice A4 nq c4] 96))) := Lib.hid (balloc (Below.refl _ _) _)
     have c5 := later HB5.out c4'
     have HY5 := Lib.hid (own_below HY.out.own (bthen HB4.out HB5.out))
     rw [HNl.out] at HY5
     have f5 : (w4.alloc (.cells #[.int .u64 r, .slice A4 nq c4] 96)).frozen? ⟨yb, 0, none⟩ = false := free_blk (i := 0) (blk_below HY.out.hc (bthen HB4.out HB5.out))
     clear hO4 hB4 hg4 hat4 hs4
     have HSrc2 : Hid (SrcAt (w4.alloc (.cells #[.int .u64 r, .slice A4 nq c4] 96)) (.slice (some ⟨w4.heap.size, 0, none⟩) 1 1) 1 2 [.int .u64 r, .slice A4 nq c4]) := Lib.hid (src_block (m := 1) (size := 2) (blk_new w4 _) rfl (by intro u hu; simp at hu; rcases hu with rfl | rfl <;> rfl) 1)
     go_wp2_with (at_builtin; refine wpList_app (w0 := (w4.alloc (.cells #[.int .u64 r, .slice A4 nq c4] 96))) 0 rfl _ _ 50 96 _ 2 32 1 [.int .u64 r, .slice A4 nq c4] rfl Tryz.underlying50 info_sx rfl (by decide) (by decide) (.slice Av nl cv) nl (l.flatMap Sx.enc) ?hs2 ?hx2 HY5.out (Below.refl _ _) (Nat.zero_le _) (by omega) ?_)
     try (case hs2 => rfl)
     case hx2 => exact HSrc2.out
     intro v6 w6 hO6 hB6 hg6 hat6
     have h6 := (hg6.block yb (by have := HY.out.lt yb (.inl rfl); have := HB4.out.size; have := HB5.out.size; omega) (fun e => (HY.out.blk yb e.symm).2 rfl)).trans (blk_below HY.out.hc (bthen HB4.out HB5.out))
     have f6 : w6.frozen? ⟨yb, 0, none⟩ = false := free_blk (i := 0) h6
     have k6 : w6.cell? ⟨yb, 0, none⟩ = some (.slice Av nl cv) := by have := blk_cell h6 0; simpa using this
     clear h6
     obtain ⟨A6, c6, rfl⟩ := own_slice hO6
     have hfin := HPush.out _ w6 _ _ (bthen HB4.out HB5.out) (HS4.out.below HB5.out) hO6 hg6 (by have h := hat6; simpa using h)
     have HFin := Lib.hid hfin
     clear hO6 hB6 hg6 hat6 hfin f5
     go_wp2_with fail
     go_ret
     obtain ⟨X', hX'⟩ := HFin.out
     exact ⟨rfl, X', _, hX'⟩
 ·rw [if_pos h1, if_neg h1]
  have hd : (rightF q != 0) = true := by simpa using h1
  generalize rightF q = re at *
  clear h1
  go_enter Tryz.func56, Tryz.ntmps56
  go_wp2_with fail
  refine (HRight.out w (Below.refl _ _)).mono ?_
  rintro e w1 ⟨rfl, hb⟩
  have HB1 := Lib.hid hb
  clear hb
  go_wp2_with fail
  go_ret
  exact ⟨rfl, X, _, HSame.out w1 HB1.out⟩
end Go.Proofs.YtlhmdgaohonpbaaGreatDoor

namespace Go.Proofs.YtlhmdgaohonpbaaGreatDoor
open Go.RowKit Go.Proofs.YtlhmdgaohonpbaaGreatDoor.MapRaw Go.ChangeMaps
theorem Rd.take {α : Type} {sz : Nat} {enc : α → List Value} {w : World} {A : Option Addr} {l : List α} (h : Rd sz enc w A l) (k : Nat) : Rd sz enc w A (l.take k) := by
 intro i x hx
 refine h i x ?_
 rw [List.getElem?_take] at hx
 split at hx
 ·exact hx
 ·cases hx
theorem Rd.drop {α : Type} {sz : Nat} {enc : α → List Value} {w : World} {b off : Nat} {l : List α} (h : Rd sz enc w (some ⟨b, off, none⟩) l) (k : Nat) : Rd sz enc w (some ⟨b, off + k * sz, none⟩) (l.drop k) := by
 intro i x hx
 rw [List.getElem?_drop] at hx
 obtain ⟨b', off', e, hc⟩ := h (k + i) x hx
 cases e
 refine ⟨b, off + k * sz, rfl, fun j u hj => ?_⟩
 have := hc j u hj
 have e1 : off + k * sz + i * sz + j = off + (k + i) * sz + j := by rw [Nat.add_mul]; omega
 rw [e1]; exact this
theorem Rd.srcM {α : Type} {sz : Nat} {enc : α → List Value} (he : ∀ x, (enc x).length = sz) (h0 : 0 < sz) {w : World} {A : Option Addr} {l : List α} {c : Nat} (h1 : ∀ x ∈ l, ∀ u ∈ enc x, u.oneCell' = true) (h : Rd sz enc w A l) (hA : A = none → c = 0) (hsp : ∀ ad, A = some ad → l ≠ [] → ad.spot = none) :
  SrcAt w (.slice A l.length c) l.length sz (l.flatMap enc) := by
 refine ⟨flat_len' he l, fun u hu => ?_, ?_⟩
 ·obtain ⟨x, hm, hx⟩ := List.mem_flatMap.1 hu; exact h1 x hm u hx
 ·cases A with
  | none =>
   left
   have : l = [] := by
    cases l with
    | nil => rfl
    | cons x l => obtain ⟨b, off, e, _⟩ := h 0 x rfl; cases e
   subst this; rw [hA rfl]; exact ⟨rfl, rfl⟩
  | some ad =>
   right
   refine ⟨ad, c, rfl, fun j u hj => ?_⟩
   have hjl : j < l.length * sz := by rw [← flat_len' he l]; exact (List.getElem?_eq_some_iff.1 hj).1
   have hi : j / sz < l.length := by rw [Nat.div_lt_iff_lt_mul h0]; exact hjl
   obtain ⟨b, off, e, hc⟩ := h (j / sz) l[j / sz] (List.getElem?_eq_getElem hi)
   have ead : ad = ⟨b, off, none⟩ := Option.some.inj e
   subst ead
   have hd : j / sz * sz + j % sz = j := by rw [Nat.mul_comm]; exact Nat.div_add_mod j sz
   have hg := flat_get he l (j / sz) (j % sz) hi (Nat.mod_lt _ h0)
   rw [hd, hj] at hg
   have := hc (j % sz) u hg.symm
   rw [add_plain]
   rw [← this]; congr 2; omega
section
variable {w W1 : World} {X : List Nat} {yb : Nat} {v v1 : Value} {l l1 : List Sx}
theorem YTurned.fresh (h : YAt w X yb v l) (hX : ∀ k ∈ X, k < w.heap.size) (hW : Below w.heap.size w W1) (hO : W1.ownsRow w.heap.size 96 2 v1 l1.length (l1.flatMap Sx.enc)) (hs : ∀ x ∈ l1, x ∈ l) :
  ∃ X', YTurned w X yb v (W1.setCell ⟨yb, 0, none⟩ v1) X' v1 (l1.map Sx.key) := by
 have hyl := h.lt yb (.inl rfl)
 have hA : Apart (blksY yb v) w (W1.setCell ⟨yb, 0, none⟩ v1) := (below_apart hW (blksY yb v)).setC ⟨yb, 0, none⟩ (.inl (.inl rfl)) v1
 have hv1 : ∀ j, v1.ownBlock = some j → w.heap.size ≤ j ∧ j < W1.heap.size := fun j hj => ownsRow_blk hO j hj
 have hmore : MoreX w X (moreY X v1) := ⟨fun k hk => mem_moreY.2 (.inr hk), fun k hk => (mem_moreY.1 hk).elim (fun e => .inr (hv1 k e).1) .inl⟩
 have hsz : (W1.setCell ⟨yb, 0, none⟩ v1).heap.size = W1.heap.size := by simp [World.setCell]
 refine ⟨moreY X v1, ⟨l1, ⟨?_, ?_, fun j hj => ⟨mem_moreY.2 (.inl hj), by have := (hv1 j hj).1; omega⟩, mem_moreY.2 (.inr h.mem), ?_⟩, rfl⟩, hmore, fun k hk => ?_, hA, .inr (fun j hj => (hv1 j hj).1)⟩
 ·rw [setCell_blk (i := 0) v1 (blk_below h.hc hW)]; rfl
 ·exact own_base (ownsRow_move hO (fun k hk => Below.heap_setCell _ _ _ _ (show k ≠ yb by have := (hv1 k hk).1; omega))) (Nat.zero_le _)
 ·intro x hx
  exact ((Slc.mono (D' := fun k => k ∉ X ∧ k ∉ moreY X v1) (h.ok x (hs x hx)) (fun k hk hkX => ⟨hkX, hmore.out hk hkX⟩)).move hA.size (fun k hk hD => hA.block k hk (fun hp => hD.1 (h.sub k hp)))).mono (fun k _ hD => hD.2)
 ·rw [hsz]
  rcases mem_moreY.1 hk with e | e
  ·exact (hv1 k e).2
  ·exact Nat.lt_of_lt_of_le (hX k e) hW.size
end
def cutS (l : List Sx) (r : Int) : List Sx := match l.findIdx? (refX r) with | none => l | some i => l.take i ++ l.drop (i + 1)
theorem cutS_key (l : List Sx) (r : Int) : (cutS l r).map Sx.key = mdel (l.map Sx.key) r := by
 unfold cutS
 rw [mdel_idx, ← idx_key]
 cases l.findIdx? (refX r) with
 | none => rfl
 | some i => simp [List.map_take, List.map_drop]
theorem cutS_mem {l : List Sx} {r : Int} {x : Sx} (h : x ∈ cutS l r) : x ∈ l := by
 unfold cutS at h
 split at h
 ·exact h
 ·rcases List.mem_append.1 h with h | h
  ·exact List.mem_of_mem_take h
  ·exact List.mem_of_mem_drop h
set_option maxRecDepth 100000 in
set_option maxHeartbeats 2000000 in
theorem ref10_cut (X : List Nat) (yb : Nat) (v : Value) (l : List Sx) (r : Int) (w : World) (h : YAt w X yb v l) (hX : ∀ k ∈ X, k < w.heap.size) (hn : l.length ≤ 1000000) :
  Calls Tryz.prog 55 #[.pointer (some ⟨yb, 0, none⟩), .int .u64 r] w (AddYPost w X yb v (if (mget (l.map Sx.key) r).isSome = true then 0 else 101) (mdel (l.map Sx.key) r)) := by
 have c0 := blk_cell h.hc 0
 simp at c0
 have hpl := ref10_place yb v l r w c0 h.slc h.ok
 rw [← cutS_key, ← place_isSome, ← idx_key]
 unfold AddYPost
 cases hi : l.findIdx? (refX r) with
 | none =>
  rw [hi] at hpl
  rw [if_neg (by simp)]
  have HSame := Lib.hid fun (W : World) (hW : Below w.heap.size w W) => YTurned.same h hX hW
  have e1 : cutS l r = l := by unfold cutS; rw [hi]
  rw [e1]
  have HPl : Hid (Calls Tryz.prog 57 #[.pointer (some ⟨yb, 0, none⟩), .int .u64 r] w fun e w' => e = .returned (.int .i64 (-1)) ∧ Below w.heap.size w w') := Lib.hid hpl
  clear hpl hi e1 h c0
  go_enter Tryz.func55, Tryz.ntmps55
  go_wp2_with fail
  refine HPl.out.mono ?_
  rintro e w1 ⟨rfl, hb⟩
  have HB := Lib.hid hb
  clear hb
  go_wp2_with fail
  go_ret
  exact ⟨rfl, X, _, HSame.out _ HB.out⟩
 | some i =>
  rw [hi] at hpl
  rw [if_pos (by rfl)]
  obtain ⟨hil, hit, -⟩ := List.findIdx?_eq_some_iff_getElem.1 hi
  have e1 : cutS l r = l.take i ++ l.drop (i + 1) := by unfold cutS; rw [hi]
  have HFresh := Lib.hid fun (W1 : World) (v1 : Value) (hW : Below w.heap.size w W1) (hO : W1.ownsRow w.heap.size 96 2 v1 (cutS l r).length ((cutS l r).flatMap Sx.enc)) => YTurned.fresh (v1 := v1) h hX hW hO (fun x hx => cutS_mem hx)
  have HE1 := Lib.hid e1
  have HPl : Hid (Calls Tryz.prog 57 #[.pointer (some ⟨yb, 0, none⟩), .int .u64 r] w fun e w' => e = .returned (.int .i64 (i : Int)) ∧ Below w.heap.size w w') := Lib.hid hpl
  have HC := Lib.hid h.hc
  have HOk := Lib.hid h.ok
  obtain ⟨A, c, rfl, p1, p2, p3, p4, p5⟩ := h.slc
  have hA : ∃ b off, A = some ⟨b, off, none⟩ := by obtain ⟨b, off, e, _⟩ := rdSx_at p5 hil; exact ⟨b, off, e⟩
  obtain ⟨b, off, rfl⟩ := hA
  have HOne : Hid (∀ x ∈ l, ∀ u ∈ x.enc, u.oneCell' = true) := Lib.hid (fun x hx => sx_one x (HOk.out x hx))
  have HS1 : Hid (∀ (W : World) (cp : Nat), Below w.heap.size w W → SrcAt W (.slice (some ⟨b, off, none⟩) i cp) i 2 ((l.take i).flatMap Sx.enc)) := Lib.hid (fun W cp hW => by
   have hlt : (l.take i).length = i := by rw [List.length_take]; omega
   have h := Rd.srcM sx_len (by decide) (fun x hx => HOne.out x (List.mem_of_mem_take hx)) ((p5.take i).below hW) (c := cp) (fun e => by cases e) (fun ad e _ => by cases e; rfl)
   rw [hlt] at h; exact h)
  have HS2 : Hid (∀ (W : World) (cp : Nat), Below w.heap.size w W → SrcAt W (.slice (some ⟨b, off + (i + 1) * 2, none⟩) (l.length - (i + 1)) cp) (l.length - (i + 1)) 2 ((l.drop (i + 1)).flatMap Sx.enc)) := Lib.hid (fun W cp hW => by
   have hlt : (l.drop (i + 1)).length = l.length - (i + 1) := by rw [List.length_drop]
   have h := Rd.srcM sx_len (by decide) (fun x hx => HOne.out x (List.mem_of_mem_drop hx)) ((p5.drop (i + 1)).below hW) (c := cp) (fun e => by cases e) (fun ad e _ => by cases e; rfl)
   rw [hlt] at h; exact h)
  obtain ⟨n, hnn⟩ : ∃ n, n = l.length := ⟨_, rfl⟩
  have Hn := Lib.hid hnn
  rw [← hnn] at hil hn p1 HS2 c0 HFresh HC ⊢
  have b1 : (0 : Int) ≤ (i : Int) := by omega
  have b2 : (i : Int) ≤ (c : Int) := by omega
  have b3 : (i : Int) + 1 ≤ (n : Int) := by omega
  have b4 : (n : Int) ≤ (c : Int) := by omega
  have b5 : (0 : Int) ≤ (i : Int) + 1 := by omega
  clear hpl hi hit e1 h p1 p2 p3 p4 p5 hnn
  go_enter Tryz.func55, Tryz.ntmps55
  go_wp2_with fail
  refine HPl.out.mono ?_
  rintro e w1 ⟨rfl, hb⟩
  have HB := Lib.hid hb
  have HBa : Hid (Below w1.heap.size w1 (w1.alloc (.cells #[] 96))) := Lib.hid (balloc (Below.refl _ _) _)
  have c1 := later HBa.out (later hb c0)
  have HO := Lib.hid (World.ownsRow_lit (base := w1.heap.size) (e := 96) (size := 2) w1 #[] 0 (Nat.le_refl _) (by decide) rfl)
  clear hb
  have hsrc := HS1.out _ c (bthen HB.out HBa.out)
  have HSrc := Lib.hid hsrc
  clear hsrc
  go_wp2_with (at_builtin; refine wpList_app (w0 := w1) w1.heap.size rfl _ _ 50 96 _ 2 32 i ((l.take i).flatMap Sx.enc) rfl Tryz.underlying50 info_sx rfl (by decide) (by decide) (.slice (some ⟨w1.heap.size, 0, none⟩) 0 0) 0 [] ?hs1 ?hx1 HO.out HBa.out (by simp) (by omega) ?_)
  try (case hs1 => rfl)
  case hx1 => exact HSrc.out
  intro v2 w2 hO2 hB2 hg2 hat2
  try simp only [Nat.zero_add, List.nil_append] at hO2
  obtain ⟨A2, c2, rfl⟩ := own_slice hO2
  have HO2 := Lib.hid hO2
  have HB2 := Lib.hid hB2
  have k2 := later (bthen HB.out hB2) c0
  have f2 : w2.frozen? ⟨yb, 0, none⟩ = false := free_blk (i := 0) (blk_below HC.out (bthen HB.out hB2))
  clear hO2 hB2 hg2 hat2 c1
  by_cases hcc : c = i + 1
  ·obtain rfl : n = i + 1 := by omega
   subst hcc
   have HSrc2 : Hid (SrcAt w2 (.slice (some ⟨b, off, none⟩) 0 0) 0 2 []) := Lib.hid ⟨rfl, fun u hu => by simp at hu, .inr ⟨⟨b, off, none⟩, 0, rfl, fun j u hj => by simp at hj⟩⟩
   have hd0 : l.drop (i + 1) = [] := List.drop_of_length_le (by rw [← Hn.out]; omega)
   have HD0 := Lib.hid hd0
   clear hd0
   go_wp2_with (at_builtin; refine wpList_app (w0 := w2) w1.heap.size rfl _ _ 50 96 _ 2 32 0 [] rfl Tryz.underlying50 info_sx rfl (by decide) (by decide) (.slice A2 i c2) i ((l.take i).flatMap Sx.enc) ?hs2 ?hx2 HO2.out (Below.refl _ _) HB2.out.size (by omega) ?_)
   try (case hs2 => rfl)
   case hx2 => exact HSrc2.out
   intro v3 w3 hO3 hB3 hg3 hat3
   try simp only [Nat.add_zero, List.append_nil] at hO3
   obtain ⟨A3, c3, rfl⟩ := own_slice hO3
   have h3 : w3.heap[yb]? = some (.cells #[.slice (some ⟨b, off, none⟩) (i + 1) (i + 1)] 52 (0, 0)) := (hB3.block yb (by have := (Array.getElem?_eq_some_iff.1 HC.out).1; have := HB.out.size; omega)).trans (blk_below HC.out (bthen HB.out HB2.out))
   have f3 : w3.frozen? ⟨yb, 0, none⟩ = false := free_blk (i := 0) h3
   have k3 : w3.cell? ⟨yb, 0, none⟩ = some (.slice (some ⟨b, off, none⟩) (i + 1) (i + 1)) := by have := blk_cell h3 0; simpa using this
   have hfin := HFresh.out w3 (.slice A3 i c3) ⟨hB3.os.trans (bthen HB.out HB2.out).os, hB3.tape.trans (bthen HB.out HB2.out).tape, hB3.output.trans (bthen HB.out HB2.out).output, Nat.le_trans (bthen HB.out HB2.out).size hB3.size, fun k hk => (hB3.block k (Nat.lt_of_lt_of_le hk HB.out.size)).trans ((bthen HB.out HB2.out).block k hk)⟩ (by
    have h := own_base hO3 HB.out.size
    have e2 : cutS l r = l.take i := by rw [HE1.out, HD0.out, List.append_nil]
    rw [e2]
    have e : (l.take i).length = i := by rw [List.length_take]; have := Hn.out; omega
    rw [e]; exact h)
   have HFin := Lib.hid hfin
   clear hO3 hB3 hg3 hat3 hfin h3 f2 k2
   go_wp2_with fail
   go_ret
   obtain ⟨X', hX'⟩ := HFin.out
   exact ⟨rfl, X', _, hX'⟩
  ·have hcz : ¬ c - (i + 1) = 0 := by omega
   have hsrc2 := HS2.out w2 (c - (i + 1)) (bthen HB.out HB2.out)
   have HSrc2 := Lib.hid hsrc2
   clear hsrc2
   go_wp2_with (at_builtin; refine wpList_app (w0 := w2) w1.heap.size rfl _ _ 50 96 _ 2 32 (n - (i + 1)) ((l.drop (i + 1)).flatMap Sx.enc) rfl Tryz.underlying50 info_sx rfl (by decide) (by decide) (.slice A2 i c2) i ((l.take i).flatMap Sx.enc) ?hs3 ?hx3 HO2.out (Below.refl _ _) HB2.out.size (by omega) ?_)
   try (case hs3 => rfl)
   case hx3 => exact HSrc2.out
   intro v3 w3 hO3 hB3 hg3 hat3
   obtain ⟨A3, c3, rfl⟩ := own_slice hO3
   have h3 : w3.heap[yb]? = some (.cells #[.slice (some ⟨b, off, none⟩) n c] 52 (0, 0)) := (hB3.block yb (by have := (Array.getElem?_eq_some_iff.1 HC.out).1; have := HB.out.size; omega)).trans (blk_below HC.out (bthen HB.out HB2.out))
   have f3 : w3.frozen? ⟨yb, 0, none⟩ = false := free_blk (i := 0) h3
   have k3 : w3.cell? ⟨yb, 0, none⟩ = some (.slice (some ⟨b, off, none⟩) n c) := by have := blk_cell h3 0; simpa using this
   have hfin := HFresh.out w3 (.slice A3 (i + (n - (i + 1))) c3) ⟨hB3.os.trans (bthen HB.out HB2.out).os, hB3.tape.trans (bthen HB.out HB2.out).tape, hB3.output.trans (bthen HB.out HB2.out).output, Nat.le_trans (bthen HB.out HB2.out).size hB3.size, fun k hk => (hB3.block k (Nat.lt_of_lt_of_le hk HB.out.size)).trans ((bthen HB.out HB2.out).block k hk)⟩ (by
    have h := own_base hO3 HB.out.size
    rw [← List.flatMap_append, ← HE1.out] at h
    have e : (cutS l r).length = i + (n - (i + 1)) := by rw [HE1.out, List.length_append, List.length_take, List.length_drop, Hn.out]; have := Hn.out; omega
    rw [e]; exact h)
   have HFin := Lib.hid hfin
   clear hO3 hB3 hg3 hat3 hfin h3 f2 k2
   go_wp2_with fail
   go_ret
   obtain ⟨X', hX'⟩ := HFin.out
   exact ⟨rfl, X', _, hX'⟩
end Go.Proofs.YtlhmdgaohonpbaaGreatDoor
