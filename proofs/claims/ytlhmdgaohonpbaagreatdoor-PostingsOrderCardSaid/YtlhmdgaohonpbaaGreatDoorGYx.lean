import Derived.Test.YtlhmdgaohonpbaaGreatDoorGBz
import Derived.Test.YtlhmdgaohonpbaaGreatDoorGLab
import Derived.Test.YtlhmdgaohonpbaaGreatDoorGPi
import Derived.Test.YtlhmdgaohonpbaaGreatDoorGIx
set_option linter.unusedSimpArgs false
set_option linter.unusedVariables false
set_option linter.unusedSectionVars false
/- the document's index in memory; both indices, alike. -/
namespace Go.Proofs.YtlhmdgaohonpbaaGreatDoor
open Go.RowKit Go.Proofs.YtlhmdgaohonpbaaGreatDoor.MapRaw Go.ChangeMaps

/-- a series of the document's index -/
structure Sx where
  ref : Int
  lv : Value
  lab : List Lb
def Sx.enc (x : Sx) : List Value := [.int .u64 x.ref, x.lv]
def Sx.key (x : Sx) : Ser := (x.ref, x.lab)
def SxOk (w : World) (D : Nat → Prop) (l : List Sx) : Prop := ∀ x ∈ l, SlL w D x.lv x.lab
theorem sx_len (x : Sx) : x.enc.length = 2 := rfl
theorem sx_one {w : World} {D : Nat → Prop} (x : Sx) (h : SlL w D x.lv x.lab) : ∀ u ∈ x.enc, u.oneCell' = true := by
  obtain ⟨A, c, e, -⟩ := h
  intro u hu
  simp [Sx.enc] at hu
  rcases hu with rfl | rfl
  · rfl
  · rw [e]; rfl
theorem SxOk.mono {w : World} {D D' : Nat → Prop} {l : List Sx} (h : SxOk w D l) (hD : ∀ k, k < w.heap.size → D k → D' k) : SxOk w D' l := fun x hx => Slc.mono (h x hx) hD
theorem SxOk.move {w w' : World} {D : Nat → Prop} {l : List Sx} (h : SxOk w D l) (hs : w.heap.size ≤ w'.heap.size) (hb : ∀ k, k < w.heap.size → D k → w'.heap[k]? = w.heap[k]?) : SxOk w' D l := fun x hx => Slc.move (h x hx) hs hb
theorem SxOk.below {w w' : World} {D : Nat → Prop} {l : List Sx} (h : SxOk w D l) (hb : Below w.heap.size w w') : SxOk w' D l := fun x hx => (h x hx).below hb
theorem rdSx_at {w : World} {A : Option Addr} {l : List Sx} (h : Rd 2 Sx.enc w A l) {k : Nat} (hk : k < l.length) :
    ∃ b off, A = some ⟨b, off, none⟩ ∧ w.cell? ⟨b, off + k * 2, none⟩ = some (.int .u64 l[k].ref) ∧ w.cell? ⟨b, off + k * 2 + 1, none⟩ = some l[k].lv := by
  obtain ⟨b, off, e, h⟩ := h k l[k] (List.getElem?_eq_getElem hk)
  exact ⟨b, off, e, h 0 _ rfl, h 1 _ rfl⟩
structure YAt (w : World) (X : List Nat) (yb : Nat) (v : Value) (l : List Sx) : Prop where
  hc : w.heap[yb]? = some (.cells #[v] 52 (0, 0))
  own : w.ownsRow 0 96 2 v l.length (l.flatMap Sx.enc)
  blk : ∀ j, v.ownBlock = some j → j ∈ X ∧ j ≠ yb
  mem : yb ∈ X
  ok : SxOk w (fun k => k ∉ X) l
def blksY (yb : Nat) (v : Value) (k : Nat) : Prop := k = yb ∨ v.ownBlock = some k
theorem YAt.slc {w : World} {X : List Nat} {yb : Nat} {v : Value} {l : List Sx} (h : YAt w X yb v l) : Slc 2 Sx.enc w (fun _ => True) v l := (own_slc sx_len rfl h.own).mono (fun _ _ _ => trivial)
theorem YAt.lt {w : World} {X : List Nat} {yb : Nat} {v : Value} {l : List Sx} (h : YAt w X yb v l) : ∀ k, blksY yb v k → k < w.heap.size := fun k hk => by
  rcases hk with rfl | hk
  · exact (Array.getElem?_eq_some_iff.1 h.hc).1
  · exact (ownsRow_blk h.own k hk).2
theorem YAt.sub {w : World} {X : List Nat} {yb : Nat} {v : Value} {l : List Sx} (h : YAt w X yb v l) : ∀ k, blksY yb v k → k ∈ X := fun k hk => by
  rcases hk with rfl | hk
  · exact h.mem
  · exact (h.blk k hk).1
theorem YAt.turn {w w' : World} {X X' : List Nat} {yb : Nat} {v : Value} {l : List Sx} {P : Nat → Prop} (h : YAt w X yb v l) (hA : Apart P w w') (hP : ∀ k, P k → k ∈ X) (hn : ∀ k, blksY yb v k → ¬ P k) (hX : MoreX w X X') : YAt w' X' yb v l := by
  refine ⟨(hA.block yb (h.lt yb (.inl rfl)) (hn yb (.inl rfl))).trans h.hc, ownsRow_move h.own (fun k hk => hA.block k (h.lt k (.inr hk)) (hn k (.inr hk))), fun j hj => ⟨hX.old j (h.blk j hj).1, (h.blk j hj).2⟩, hX.old _ h.mem, ?_⟩
  exact ((SxOk.mono (D' := fun k => k ∉ X ∧ k ∉ X') h.ok (fun k hk hkX => ⟨hkX, hX.out hk hkX⟩)).move hA.size (fun k hk hD => hA.block k hk (fun hp => hD.1 (hP k hp)))).mono (fun k _ hD => hD.2)
theorem YAt.below {w w' : World} {X : List Nat} {yb : Nat} {v : Value} {l : List Sx} (h : YAt w X yb v l) (hb : Below w.heap.size w w') : YAt w' X yb v l :=
  h.turn (P := fun _ => False) (below_apart hb _) (fun _ h => h.elim) (fun _ _ h => h) (MoreX.refl _ _)
/-- the document's index turned, all else stays -/
structure YTurned (w : World) (X : List Nat) (yb : Nat) (v : Value) (w' : World) (X' : List Nat) (v' : Value) (L' : List Ser) : Prop where
  at_ : ∃ l', YAt w' X' yb v' l' ∧ l'.map Sx.key = L'
  more : MoreX w X X'
  lt : ∀ k ∈ X', k < w'.heap.size
  apart : Apart (blksY yb v) w w'
  fine : v'.ownBlock = v.ownBlock ∨ ∀ j, v'.ownBlock = some j → w.heap.size ≤ j
theorem YTurned.same {w w' : World} {X : List Nat} {yb : Nat} {v : Value} {l : List Sx} (h : YAt w X yb v l) (hX : ∀ k ∈ X, k < w.heap.size) (hb : Below w.heap.size w w') : YTurned w X yb v w' X v (l.map Sx.key) :=
  ⟨⟨l, h.below hb, rfl⟩, MoreX.refl _ _, fun k hk => Nat.lt_of_lt_of_le (hX k hk) hb.size, below_apart hb _, .inl rfl⟩
theorem YTurned.pre {w w1 w2 : World} {X X1 : List Nat} {yb : Nat} {v v1 : Value} {L1 : List Ser} (hb : Below w.heap.size w w1) (h : YTurned w1 X yb v w2 X1 v1 L1) : YTurned w X yb v w2 X1 v1 L1 :=
  ⟨h.at_, ⟨h.more.old, fun k hk => (h.more.new k hk).imp id (fun h => Nat.le_trans hb.size h)⟩, h.lt, (below_apart hb _).trans h.apart (fun _ _ h => h), h.fine.imp id (fun g j hj => Nat.le_trans hb.size (g j hj))⟩

/-! ### both -/
abbrev Pairs := List ((ByteArray × ByteArray) × Nat)
def blksI (ab rb hb : Nat) (inner : Pairs) (k : Nat) : Prop := k ∈ [ab, rb, hb] ++ inner.map (·.2)
structure Bo (w0 : World) (xb yb : Nat) (F : List Nat) (I : Ix) (X : List Nat) (ab rb hb : Nat) (inner : Pairs) (v : Value) (l : List Sx) (wr : World) : Prop where
  ix : IxAt wr X xb I ab rb hb inner
  y : YAt wr X yb v l
  ok : IxOk I
  sep : ∀ k, blksY yb v k → ¬ blksI ab rb hb inner k
  fx : ∀ k ∈ F, k ∈ X ∧ ¬ blksI ab rb hb inner k ∧ ¬ blksY yb v k
  xX : xb ∉ X
  new : ∀ k ∈ X, w0.heap.size ≤ k
  xn : w0.heap.size ≤ xb
  below : Below w0.heap.size w0 wr
variable {w0 wr w2 : World} {xb yb : Nat} {F : List Nat} {I I' : Ix} {X X' : List Nat} {ab rb hb : Nat} {inner inner' : Pairs} {v v' : Value} {l : List Sx}
theorem Bo.then (h : Bo w0 xb yb F I X ab rb hb inner v l wr) (hb2 : Below wr.heap.size wr w2) : Bo w0 xb yb F I X ab rb hb inner v l w2 :=
  ⟨h.ix.below hb2, h.y.below hb2, h.ok, h.sep, h.fx, h.xX, h.new, h.xn, bthen h.below hb2⟩
/-- the program's index turned -/
structure XTurned (w : World) (X : List Nat) (xb : Nat) (ab rb hb : Nat) (inner : Pairs) (w' : World) (X' : List Nat) (I' : Ix) (inner' : Pairs) : Prop where
  ix : IxAt w' X' xb I' ab rb hb inner'
  more : MoreX w X X'
  fine : ∀ k ∈ inner'.map (·.2), k ∈ inner.map (·.2) ∨ w.heap.size ≤ k
  apart : Apart (blksI ab rb hb inner) w w'
theorem XTurned.same {w w' : World} (h : IxAt w X xb I ab rb hb inner) (hb2 : Below w.heap.size w w') : XTurned w X xb ab rb hb inner w' X I inner :=
  ⟨h.below hb2, MoreX.refl _ _, fun _ h => .inl h, below_apart hb2 _⟩
theorem XTurned.ofAdd {w w' : World} {ref : Int} {lab : List Lb} {e : Ending} (h : AddPost w X xb I ab rb hb inner ref lab e w') : e = .returned (.int .i64 0) ∧ ∃ X' inner', XTurned w X xb ab rb hb inner w' X' (addI I ref lab) inner' := by
  obtain ⟨he, inner', X', h1, h2, h3, h4, h5⟩ := h
  exact ⟨he, X', inner', h1, ⟨h2, h3⟩, h4, h5⟩
theorem Bo.newOf (h : Bo w0 xb yb F I X ab rb hb inner v l wr) (hm : MoreX wr X X') : ∀ k ∈ X', w0.heap.size ≤ k := fun k hk => (hm.new k hk).elim (h.new k) (fun g => Nat.le_trans h.below.size g)
theorem Bo.xXof (h : Bo w0 xb yb F I X ab rb hb inner v l wr) (hm : MoreX wr X X') : xb ∉ X' := fun hk => (hm.new xb hk).elim h.xX (fun g => by have := (Array.getElem?_eq_some_iff.1 h.ix.cells).1; omega)
theorem Bo.belowOf (h : Bo w0 xb yb F I X ab rb hb inner v l wr) {P : Nat → Prop} (hA : Apart P wr w2) (hP : ∀ k, P k → k ∈ X) : Below w0.heap.size w0 w2 := apart_below h.below hA (fun k hk => h.new k (hP k hk))
/-- the program's index turned, the document's not yet: what stays -/
structure BoMid (w0 : World) (xb yb : Nat) (F : List Nat) (I : Ix) (X : List Nat) (ab rb hb : Nat) (inner : Pairs) (v : Value) (l : List Sx) (wr : World) : Prop where
  ix : IxAt wr X xb I ab rb hb inner
  y : YAt wr X yb v l
  sep : ∀ k, blksY yb v k → ¬ blksI ab rb hb inner k
  fx : ∀ k ∈ F, k ∈ X ∧ ¬ blksI ab rb hb inner k ∧ ¬ blksY yb v k
  xX : xb ∉ X
  new : ∀ k ∈ X, w0.heap.size ≤ k
  xn : w0.heap.size ≤ xb
  below : Below w0.heap.size w0 wr
theorem BoMid.then (h : BoMid w0 xb yb F I X ab rb hb inner v l wr) (hb2 : Below wr.heap.size wr w2) : BoMid w0 xb yb F I X ab rb hb inner v l w2 :=
  ⟨h.ix.below hb2, h.y.below hb2, h.sep, h.fx, h.xX, h.new, h.xn, bthen h.below hb2⟩
theorem BoMid.with (h : BoMid w0 xb yb F I X ab rb hb inner v l wr) (hk : IxOk I) : Bo w0 xb yb F I X ab rb hb inner v l wr := ⟨h.ix, h.y, hk, h.sep, h.fx, h.xX, h.new, h.xn, h.below⟩
theorem BoMid.ofBo (h : Bo w0 xb yb F I X ab rb hb inner v l wr) : BoMid w0 xb yb F I X ab rb hb inner v l wr := ⟨h.ix, h.y, h.sep, h.fx, h.xX, h.new, h.xn, h.below⟩
theorem Bo.turnX (h : Bo w0 xb yb F I X ab rb hb inner v l wr) (ht : XTurned wr X xb ab rb hb inner w2 X' I' inner') : BoMid w0 xb yb F I' X' ab rb hb inner' v l w2 := by
  have hsub : ∀ k, blksI ab rb hb inner k → k ∈ X := fun k hk => h.ix.sub k hk
  have hno : ∀ k, k < wr.heap.size → ¬ blksI ab rb hb inner k → ¬ blksI ab rb hb inner' k := fun k hk hn hm => by
    rcases List.mem_append.1 hm with hm | hm
    · exact hn (List.mem_append_left _ hm)
    · rcases ht.fine k hm with hm | hm
      · exact hn (List.mem_append_right _ hm)
      · omega
  exact ⟨ht.ix, h.y.turn ht.apart hsub (fun k hk hk2 => h.sep k hk hk2) ht.more, fun k hk => hno k (h.y.lt k hk) (h.sep k hk), fun k hk => ⟨ht.more.old k (h.fx k hk).1, hno k (h.ix.lt k (h.fx k hk).1) (h.fx k hk).2.1, (h.fx k hk).2.2⟩, h.xXof ht.more, h.newOf ht.more, h.xn, h.belowOf ht.apart hsub⟩
theorem BoMid.turnY {L' : List Ser} (h : BoMid w0 xb yb F I X ab rb hb inner v l wr) (ht : YTurned wr X yb v w2 X' v' L') : ∃ l', BoMid w0 xb yb F I X' ab rb hb inner v' l' w2 ∧ l'.map Sx.key = L' := by
  obtain ⟨l', g1, g2⟩ := ht.at_
  have hfn : ∀ k, blksY yb v' k → blksY yb v k ∨ wr.heap.size ≤ k := fun k hk => by
    rcases hk with rfl | hk
    · exact .inl (.inl rfl)
    · rcases ht.fine with hf | hf
      · exact .inl (.inr (hf ▸ hk))
      · exact .inr (hf k hk)
  refine ⟨l', ⟨h.ix.move ht.apart.size (fun k hk hor => ht.apart.block k hk (fun hy => ?_)) (fun k hk hX => ht.more.out hk hX) ht.more.old ht.lt, g1, fun k hk hi => ?_, fun k hk => ⟨ht.more.old k (h.fx k hk).1, (h.fx k hk).2.1, fun hy => ?_⟩, ?_, ?_, h.xn, ?_⟩, g2⟩
  · rcases hor with h1 | h1 | h1
    · exact h1 (h.y.sub k hy)
    · subst h1; exact h.xX (h.y.sub _ hy)
    · exact h.sep k hy h1
  · rcases hfn k hk with h1 | h1
    · exact h.sep k h1 hi
    · have := h.ix.lt k (h.ix.sub k hi); omega
  · rcases hfn k hy with h1 | h1
    · exact (h.fx k hk).2.2 h1
    · have := h.ix.lt k (h.fx k hk).1; omega
  · exact fun hk => (ht.more.new xb hk).elim h.xX (fun g => by have := (Array.getElem?_eq_some_iff.1 h.ix.cells).1; omega)
  · exact fun k hk => (ht.more.new k hk).elim (h.new k) (fun g => Nat.le_trans h.below.size g)
  · exact apart_below h.below ht.apart (fun k hk => h.new k (h.y.sub k hk))
/-- a foreign block turned -/
theorem Bo.turnF (h : Bo w0 xb yb F I X ab rb hb inner v l wr) (hA : Apart (fun k => k ∈ F) wr w2) : Bo w0 xb yb F I X ab rb hb inner v l w2 := by
  have hsub : ∀ k, k ∈ F → k ∈ X := fun k hk => (h.fx k hk).1
  refine ⟨h.ix.move hA.size (fun k hk hor => hA.block k hk (fun hf => ?_)) (fun _ _ h => h) (fun _ h => h) (fun k hk => Nat.lt_of_lt_of_le (h.ix.lt k hk) hA.size), h.y.turn hA hsub (fun k hk hf => (h.fx k hf).2.2 hk) (MoreX.refl _ _), h.ok, h.sep, h.fx, h.xX, h.new, h.xn, h.belowOf hA hsub⟩
  rcases hor with h1 | h1 | h1
  · exact h1 (hsub k hf)
  · subst h1; exact h.xX (hsub _ hf)
  · exact (h.fx k hf).2.1 h1
/-- a new foreign block -/
theorem Bo.addF (h : Bo w0 xb yb F I X ab rb hb inner v l wr) {g : Nat} (hb2 : Below wr.heap.size wr w2) (hg : wr.heap.size ≤ g) (hg2 : g < w2.heap.size) : Bo w0 xb yb (g :: F) I (g :: X) ab rb hb inner v l w2 := by
  have hm : MoreX wr X (g :: X) := ⟨fun k hk => List.mem_cons_of_mem _ hk, fun k hk => (List.mem_cons.1 hk).elim (fun e => .inr (e ▸ hg)) .inl⟩
  refine ⟨h.ix.move hb2.size (fun k hk _ => hb2.block k hk) (fun k hk hX => hm.out hk hX) hm.old (fun k hk => ?_), h.y.turn (P := fun _ => False) (below_apart hb2 _) (fun _ h => h.elim) (fun _ _ h => h) hm, h.ok, h.sep, fun k hk => ?_, h.xXof hm, h.newOf hm, h.xn, bthen h.below hb2⟩
  · rcases List.mem_cons.1 hk with rfl | hk
    · exact hg2
    · exact Nat.lt_of_lt_of_le (h.ix.lt k hk) hb2.size
  · rcases List.mem_cons.1 hk with rfl | hk
    · exact ⟨List.mem_cons_self .., fun hi => by have := h.ix.lt k (h.ix.sub k hi); omega, fun hy => by have := h.y.lt k hy; omega⟩
    · exact ⟨List.mem_cons_of_mem _ (h.fx k hk).1, (h.fx k hk).2⟩
theorem Bo.forget (h : Bo w0 xb yb F I X ab rb hb inner v l wr) : Bo w0 xb yb [] I X ab rb hb inner v l wr := ⟨h.ix, h.y, h.ok, h.sep, fun k hk => by simp at hk, h.xX, h.new, h.xn, h.below⟩
end Go.Proofs.YtlhmdgaohonpbaaGreatDoor

/- the document's index: place, Ref, Labels. -/
namespace Go.Proofs.YtlhmdgaohonpbaaGreatDoor
open Go.RowKit Go.Proofs.YtlhmdgaohonpbaaGreatDoor.MapRaw Go.ChangeMaps

def refX (r : Int) (x : Sx) : Bool := decide (x.ref = r)
def labXx (q : List Lb) (x : Sx) : Bool := decide (x.lab = q)
theorem idx_key (l : List Sx) (r : Int) : l.findIdx? (refX r) = (l.map Sx.key).findIdx? (refB10 r) := by rw [List.findIdx?_map]; rfl
set_option maxRecDepth 100000 in
set_option maxHeartbeats 1000000 in
theorem ref10_place {D D' : Nat → Prop} (yb : Nat) (v : Value) (l : List Sx) (r : Int) (w : World) (hc : w.cell? ⟨yb, 0, none⟩ = some v) (hv : Slc 2 Sx.enc w D v l) (hl : SxOk w D' l) :
    Calls Tryz.prog 57 #[.pointer (some ⟨yb, 0, none⟩), .int .u64 r] w fun e w' => e = .returned (.int .i64 (ixF (l.findIdx? (refX r)))) ∧ Below w.heap.size w w' := by
  obtain ⟨A, c, rfl, p1, p2, p3, p4, p5⟩ := hv
  have HR := Lib.hid p5
  have HL := Lib.hid hl
  have hm : l.length ≤ 9223372036854775807 := by simp only [maxLen] at p2; omega
  obtain ⟨n, hn⟩ : ∃ n, n = l.length := ⟨_, rfl⟩
  have Hn := Lib.hid hn
  rw [← hn] at hm hc
  clear p1 p2 p3 p4 p5 hn hl
  go_enter Tryz.func57, Tryz.ntmps57
  go_wp2
  go_loopw [12] (fun i wr => ∃ k : Nat, k ≤ n ∧ i = .int .i64 k ∧ NoTo (refX r) l k ∧ Below w.heap.size w wr) (fun i _ => n - (intOf i).toNat)
  case atStart => exact ⟨0, Nat.zero_le _, rfl, NoTo.start _ _, Below.refl _ _⟩
  case round =>
    obtain ⟨k, hk, rfl, hE, hB⟩ := hrel
    by_cases hlt : k < n
    · have hkl : k < l.length := by rw [← Hn.out]; exact hlt
      obtain ⟨b, off, rfl, z0, z1⟩ := rdSx_at (Rd.below HR.out hB) hkl
      have hx := HL.out _ (List.getElem_mem hkl)
      have hRd := hE.round hkl
      generalize l[k] = x at *
      obtain ⟨xr, lv, lab⟩ := x
      simp only at z0 z1 hx hRd
      obtain ⟨A2, c2, rfl, -⟩ := hx
      generalize lab.length = n2 at *
      have HBr := Lib.hid hB
      have HBw : Hid (Below wr.heap.size wr (wr.alloc (.cells #[.int .u64 xr, .slice A2 n2 c2] 96))) := Lib.hid (balloc (Below.refl _ _) _)
      clear hE hB
      rcases hRd with ⟨g1, g2⟩ | ⟨g1, g2⟩
      · have G2 := Lib.hid g2
        have he : (xr == r) = true := by simpa [refX] using g1
        clear g1 g2
        go_wp2
        go_ret
        exact ⟨by rw [G2.out]; rfl, bthen HBr.out HBw.out⟩
      · have G2 := Lib.hid g2
        have he : (xr == r) = false := by simpa [refX] using g1
        clear g1 g2
        go_wp2
        go_roundw
        case rel => exact ⟨k + 1, by omega, by go_num, G2.out, bthen HBr.out HBw.out⟩
        case measure => simp [intOf] <;> omega
    · have hEd := Lib.hid (hE.done (by rw [← Hn.out]; exact hlt))
      have HBr := Lib.hid hB
      clear hE hB
      go_wp2
      go_ret
      exact ⟨by rw [hEd.out]; rfl, HBr.out⟩
/-- the number that was found -/
def foundR (l : List Sx) (q : List Lb) : Option Int := ((l.findIdx? (labXx q)).bind fun i => l[i]?).map Sx.ref
theorem found_num (l : List Sx) (q : List Lb) : foundR l q = numL (l.map Sx.key) q := by
  unfold foundR numL
  induction l with
  | nil => rfl
  | cons x l ih =>
    rw [List.findIdx?_cons, List.map_cons, List.find?_cons]
    unfold labXx labB10 at *
    by_cases h : x.lab = q
    · rw [decide_eq_true h]
      have : decide ((Sx.key x).2 = q) = true := decide_eq_true h
      rw [this]; rfl
    · rw [decide_eq_false h]
      have : decide ((Sx.key x).2 = q) = false := decide_eq_false h
      rw [this, ← ih]
      cases l.findIdx? (fun x => decide (x.lab = q)) <;> simp
set_option maxRecDepth 100000 in
set_option maxHeartbeats 1000000 in
theorem ref10_ref {D D' D2 : Nat → Prop} (yb : Nat) (v qv : Value) (l : List Sx) (q : List Lb) (w : World) (hc : w.cell? ⟨yb, 0, none⟩ = some v) (hv : Slc 2 Sx.enc w D v l) (hl : SxOk w D' l) (hq : SlL w D2 qv q) :
    Calls Tryz.prog 29 #[.pointer (some ⟨yb, 0, none⟩), qv] w fun e w' => e = .returned (.tuple #[.int .u64 ((foundR l q).getD 0), .bool (foundR l q).isSome]) ∧ Below w.heap.size w w' := by
  obtain ⟨A, c, rfl, p1, p2, p3, p4, p5⟩ := hv
  have HR := Lib.hid p5
  have HL := Lib.hid hl
  have HQ := Lib.hid hq
  obtain ⟨A9, c9, rfl, -⟩ := hq
  generalize q.length = n9 at *
  have hm : l.length ≤ 9223372036854775807 := by simp only [maxLen] at p2; omega
  obtain ⟨n, hn⟩ : ∃ n, n = l.length := ⟨_, rfl⟩
  have Hn := Lib.hid hn
  rw [← hn] at hm hc
  have HF : Hid (∀ i, l.findIdx? (labXx q) = some i → ∀ (hi : i < l.length), foundR l q = some l[i].ref) := Lib.hid (fun i h hi => by unfold foundR; rw [h]; simp [List.getElem?_eq_getElem hi])
  have HF0 : Hid (l.findIdx? (labXx q) = none → foundR l q = none) := Lib.hid (fun h => by unfold foundR; rw [h]; rfl)
  generalize foundR l q = res at *
  clear p1 p2 p3 p4 p5 hn hl
  go_enter Tryz.func29, Tryz.ntmps29
  go_wp2
  go_loopw [13] (fun i wr => ∃ k : Nat, k ≤ n ∧ i = .int .i64 k ∧ NoTo (labXx q) l k ∧ Below w.heap.size w wr) (fun i _ => n - (intOf i).toNat)
  case atStart => exact ⟨0, Nat.zero_le _, rfl, NoTo.start _ _, Below.refl _ _⟩
  case round =>
    obtain ⟨k, hk, rfl, hE, hB⟩ := hrel
    by_cases hlt : k < n
    · have hkl : k < l.length := by rw [← Hn.out]; exact hlt
      obtain ⟨b, off, rfl, z0, z1⟩ := rdSx_at (Rd.below HR.out hB) hkl
      have hx := HL.out _ (List.getElem_mem hkl)
      have hRd := hE.round hkl
      have hf := fun g => HF.out k g hkl
      generalize l[k] = x at *
      obtain ⟨xr, lv, lab⟩ := x
      simp only at z0 z1 hx hRd hf
      have hsame := lab_same w hx HQ.out
      have HSame := Lib.hid hsame
      obtain ⟨A2, c2, rfl, -⟩ := hx
      generalize lab.length = n2 at *
      have HBr := Lib.hid hB
      have HBw : Hid (Below wr.heap.size wr (wr.alloc (.cells #[.int .u64 xr, .slice A2 n2 c2] 96))) := Lib.hid (balloc (Below.refl _ _) _)
      have y0 : (wr.alloc (.cells #[.int .u64 xr, .slice A2 n2 c2] 96)).cell? ⟨wr.heap.size, 0, none⟩ = some (.int .u64 xr) := by simp
      have Y0 := Lib.hid y0
      clear hE hB hsame y0
      rcases hRd with ⟨g1, g2⟩ | ⟨g1, g2⟩
      · have G2 : Hid (res = some xr) := Lib.hid (hf g2)
        have he : decide (lab = q) = true := g1
        rw [he] at HSame
        clear g1 g2 he hf
        go_wp2_with fail
        refine (HSame.out _ (bthen HBr.out HBw.out)).mono ?_
        rintro e w1 ⟨rfl, hb⟩
        have HB1 := Lib.hid (bthen (bthen HBr.out HBw.out) hb)
        have y1 := later hb Y0.out
        clear hb
        go_wp2
        go_ret2
        exact ⟨by rw [G2.out]; rfl, HB1.out⟩
      · have G2 := Lib.hid g2
        have he : decide (lab = q) = false := g1
        rw [he] at HSame
        clear g1 g2 he hf
        go_wp2_with fail
        refine (HSame.out _ (bthen HBr.out HBw.out)).mono ?_
        rintro e w1 ⟨rfl, hb⟩
        have HB1 := Lib.hid (bthen (bthen HBr.out HBw.out) hb)
        clear hb
        go_wp2
        go_roundw
        case rel => exact ⟨k + 1, by omega, by go_num, G2.out, HB1.out⟩
        case measure => simp [intOf] <;> omega
    · have hEd : Hid (res = none) := Lib.hid (HF0.out (hE.done (by rw [← Hn.out]; exact hlt)))
      have HBr := Lib.hid hB
      clear hE hB
      go_wp2
      go_ret2
      exact ⟨by rw [hEd.out]; rfl, HBr.out⟩
/-- the labels of a number -/
def LabPost (w : World) (l : List Sx) (r : Int) (e : Ending) (w' : World) : Prop :=
  (∃ x ∈ l, x.ref = r ∧ mget (l.map Sx.key) r = some x.lab ∧ e = .returned (.tuple #[x.lv, .bool true]) ∧ Below w.heap.size w w') ∨ (mget (l.map Sx.key) r = none ∧ e = .returned (.tuple #[.slice none 0 0, .bool false]) ∧ Below w.heap.size w w')
set_option maxRecDepth 100000 in
set_option maxHeartbeats 1000000 in
theorem ref10_labels {D D' : Nat → Prop} (yb : Nat) (v : Value) (l : List Sx) (r : Int) (w : World) (hc : w.cell? ⟨yb, 0, none⟩ = some v) (hv : Slc 2 Sx.enc w D v l) (hl : SxOk w D' l) :
    Calls Tryz.prog 27 #[.pointer (some ⟨yb, 0, none⟩), .int .u64 r] w (LabPost w l r) := by
  have hpl := ref10_place yb v l r w hc hv hl
  have hmg := mget_idx (l.map Sx.key) r
  rw [← idx_key] at hmg
  obtain ⟨A, c, rfl, p1, p2, p3, p4, p5⟩ := hv
  have HR := Lib.hid p5
  have hm : l.length ≤ 9223372036854775807 := by simp only [maxLen] at p2; omega
  cases hi : l.findIdx? (refX r) with
  | none =>
    rw [hi] at hpl hmg
    have hfin : ∀ w', Below w.heap.size w w' → LabPost w l r (.returned (.tuple #[.slice none 0 0, .bool false])) w' := fun w' hb => .inr ⟨hmg, rfl, hb⟩
    have HFin := Lib.hid hfin
    have HPl : Hid (Calls Tryz.prog 57 #[.pointer (some ⟨yb, 0, none⟩), .int .u64 r] w fun e w' => e = .returned (.int .i64 (-1)) ∧ Below w.heap.size w w') := Lib.hid hpl
    clear hpl hmg hfin p1 p2 p3 p4 p5 hl hi hm HR hc
    go_enter Tryz.func27, Tryz.ntmps27
    go_wp2_with fail
    refine HPl.out.mono ?_
    rintro e w1 ⟨rfl, hb⟩
    have HB := Lib.hid hb
    clear hb
    go_wp2_with fail
    go_ret2
    exact HFin.out _ HB.out
  | some i =>
    rw [hi] at hpl hmg
    obtain ⟨hil, hit, -⟩ := List.findIdx?_eq_some_iff_getElem.1 hi
    have hx := hl _ (List.getElem_mem hil)
    have hfin : ∀ w', Below w.heap.size w w' → LabPost w l r (.returned (.tuple #[l[i].lv, .bool true])) w' := fun w' hb => .inl ⟨l[i], List.getElem_mem hil, of_decide_eq_true hit, by rw [hmg]; simp [List.getElem?_eq_getElem hil, Sx.key], rfl, hb⟩
    have HFin := Lib.hid hfin
    have HPl : Hid (Calls Tryz.prog 57 #[.pointer (some ⟨yb, 0, none⟩), .int .u64 r] w fun e w' => e = .returned (.int .i64 (i : Int)) ∧ Below w.heap.size w w') := Lib.hid hpl
    obtain ⟨b, off, rfl, z0, z1⟩ := rdSx_at HR.out hil
    have Z1 := Lib.hid z1
    have HCc := Lib.hid hc
    generalize l[i] = x at *
    obtain ⟨xr, lv, lab⟩ := x
    simp only at z0 z1 Z1 HFin hx
    obtain ⟨A2, c2, rfl, -⟩ := hx
    generalize lab.length = n2 at *
    generalize l.length = n at *
    clear hpl hmg hfin p1 p2 p3 p4 p5 hl hi hit z0 z1 HR hc
    go_enter Tryz.func27, Tryz.ntmps27
    go_wp2_with fail
    refine HPl.out.mono ?_
    rintro e w1 ⟨rfl, hb⟩
    have HB := Lib.hid hb
    have y1 := later hb Z1.out
    have y0 := later hb HCc.out
    clear hb
    go_wp2_with fail
    go_ret2
    exact HFin.out _ HB.out
end Go.Proofs.YtlhmdgaohonpbaaGreatDoor
