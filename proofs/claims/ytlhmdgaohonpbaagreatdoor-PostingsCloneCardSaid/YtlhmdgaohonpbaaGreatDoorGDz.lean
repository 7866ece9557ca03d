import Derived.Test.YtlhmdgaohonpbaaGreatDoorGYx
import Derived.Test.YtlhmdgaohonpbaaGreatDoorGIxc
import Derived.Test.YtlhmdgaohonpbaaGreatDoorGLj
set_option linter.unusedSimpArgs false
set_option linter.unusedVariables false
set_option linter.unusedSectionVars false
namespace Go.Proofs.YtlhmdgaohonpbaaGreatDoor
open Go.RowKit Go.Proofs.YtlhmdgaohonpbaaGreatDoor.MapRaw Go.ChangeMaps
section
variable {w0 wr w2 : World} {xb yb : Nat} {F : List Nat} {I I' : Ix} {X X' : List Nat} {ab rb hb : Nat} {inner inner' : Pairs} {v v' : Value} {l : List Sx}
theorem BoMid.ltX (h : BoMid w0 xb yb F I X ab rb hb inner v l wr) : ∀ k ∈ X, k < wr.heap.size := h.ix.lt
theorem Bo.addOwn (h : Bo w0 xb yb [] I X ab rb hb inner v l wr) (hb2 : Below wr.heap.size wr w2) {T : TypeId} {sz n : Nat} {u : Value} {xs : List Value} (ho : w2.ownsRow wr.heap.size T sz u n xs) : Bo w0 xb yb (moreY [] u) I (moreY X u) ab rb hb inner v l w2 := by
 unfold moreY
 cases hu : u.ownBlock with
 | none => exact h.then hb2
 | some j => obtain ⟨h1, h2⟩ := ownsRow_blk ho j hu; exact h.addF hb2 h1 h2
theorem bo_add {D : Nat → Prop} (ref : Int) (ov : Value) (lab : List Lb) (h : Bo w0 xb yb F I X ab rb hb inner v l wr) (hv : SlL wr D ov lab) (hD : ∀ k, D k → k ≠ ab) (hz : SzL lab) (hT : Tabs w0) (h2 : 2 ≤ w0.heap.size) :
  Calls Tryz.prog 15 #[.pointer (some ⟨xb, 0, none⟩), .int .u64 ref, ov] wr fun e w' => e = .returned (.int .i64 (addErr I ref lab)) ∧ ∃ X' inner', BoMid w0 xb yb F (if addErr I ref lab = 0 then addI I ref lab else I) X' ab rb hb inner' v l w' ∧ Apart (blksI ab rb hb inner) wr w' := by
 by_cases he : addErr I ref lab = 0
 ·rw [he, if_pos rfl]
  refine (ix_addD ref ov lab wr h.ix h.xX hD hv hz (hT.below h.below h2) (Nat.le_trans h2 h.below.size) he).mono ?_
  intro e w' hp
  obtain ⟨he2, X', inner', ht⟩ := XTurned.ofAdd hp
  exact ⟨he2, X', inner', h.turnX ht, ht.apart⟩
 ·rw [if_neg he]
  refine (ix_add_refused ref ov lab wr h.ix hv hz (hT.below h.below h2) (Nat.le_trans h2 h.below.size) he).mono ?_
  rintro e w' ⟨he2, hb2⟩
  exact ⟨he2, X, inner, BoMid.ofBo (h.then hb2), below_apart hb2 _⟩
theorem bo_cut (ref : Int) (h : Bo w0 xb yb F I X ab rb hb inner v l wr) :
  Calls Tryz.prog 40 #[.pointer (some ⟨xb, 0, none⟩), .int .u64 ref] wr fun e w' => e = .returned (.int .i64 (if (mget I.all ref).isSome = true then 0 else 101)) ∧ ∃ X' inner', BoMid w0 xb yb F (cutI I ref) X' ab rb hb inner' v l w' ∧ Apart (blksI ab rb hb inner) wr w' := by
 refine (ix_cut ref wr h.ix h.xX h.ok).mono ?_
 rintro e w' ⟨he, inner', h1, h3, h4⟩
 exact ⟨he, X, inner', h.turnX ⟨h1, MoreX.refl _ _, fun k hk => .inl (h3 k hk), h4⟩, h4⟩
theorem bo_addY {D : Nat → Prop} (ref : Int) (qv : Value) (q : List Lb) (h : BoMid w0 xb yb F I X ab rb hb inner v l wr) (hq : SlL wr D qv q) (hz : SzL q) (hn : l.length ≤ 1000000) :
  Calls Tryz.prog 56 #[.pointer (some ⟨yb, 0, none⟩), .int .u64 ref, qv] wr fun e w' => e = .returned (.int .i64 (addY (l.map Sx.key) ref q)) ∧ ∃ X' v' l', BoMid w0 xb yb F I X' ab rb hb inner v' l' w' ∧ l'.map Sx.key = (if addY (l.map Sx.key) ref q = 0 then l.map Sx.key ++ [(ref, q)] else l.map Sx.key) ∧ Apart (blksY yb v) wr w' := by
 refine (ref10_add X yb v qv l ref q wr h.y h.ltX hq hz hn).mono ?_
 rintro e w' ⟨he, X', v', ht⟩
 obtain ⟨l', h1, h2⟩ := h.turnY ht
 exact ⟨he, X', v', l', h1, h2, ht.apart⟩
theorem bo_cutY (ref : Int) (h : BoMid w0 xb yb F I X ab rb hb inner v l wr) (hn : l.length ≤ 1000000) :
  Calls Tryz.prog 55 #[.pointer (some ⟨yb, 0, none⟩), .int .u64 ref] wr fun e w' => e = .returned (.int .i64 (if (mget (l.map Sx.key) ref).isSome = true then 0 else 101)) ∧ ∃ X' v' l', BoMid w0 xb yb F I X' ab rb hb inner v' l' w' ∧ l'.map Sx.key = mdel (l.map Sx.key) ref ∧ Apart (blksY yb v) wr w' := by
 refine (ref10_cut X yb v l ref wr h.y h.ltX hn).mono ?_
 rintro e w' ⟨he, X', v', ht⟩
 obtain ⟨l', h1, h2⟩ := h.turnY ht
 exact ⟨he, X', v', l', h1, h2, ht.apart⟩
end
structure OpV where
 cut : Bool
 ref : Int
 lv : Value
 lab : List Lb
def OpV.enc (o : OpV) : List Value := [.bool o.cut, .int .u64 o.ref, o.lv]
def OpV.op (o : OpV) : Op10 := ⟨o.cut, o.ref, o.lab⟩
def SmallL (l : List Lb) : Prop := l.length ≤ 30 ∧ ∀ x ∈ l, x.n.size ≤ 200 ∧ x.v.size ≤ 200
theorem SmallL.sz {l : List Lb} (h : SmallL l) : SzL l := fun x hx => by
 have := h.2 x hx
 simp only [maxLen]
 omega
def Both (w0 : World) (xb yb : Nat) (I : Ix) (w : World) : Prop := ∃ X ab rb hb inner v l, Bo w0 xb yb [] I X ab rb hb inner v l w ∧ l.map Sx.key = I.all
theorem Both.then {w0 w w2 : World} {xb yb : Nat} {I : Ix} (h : Both w0 xb yb I w) (hb2 : Below w.heap.size w w2) : Both w0 xb yb I w2 := by
 obtain ⟨X, ab, rb, hb, inner, v, l, h1, h2⟩ := h
 exact ⟨X, ab, rb, hb, inner, v, l, h1.then hb2, h2⟩
structure OwnTo (w4 : World) (g : Nat) (lab : List Lb) (k : Nat) (wr : World) : Prop where
 row : ∃ cs, wr.heap[g]? = some (.cells cs 80 (0, 0)) ∧ ∀ (j : Nat) (x : Lb), k ≤ j → lab[j]? = some x → cs[j * 2 + 1]? = some (.string x.v)
 apart : Apart (fun b => b = g) w4 wr
theorem OwnTo.next {w4 wr : World} {g k : Nat} {lab : List Lb} (h : OwnTo w4 g lab k wr) (u : Value) : OwnTo w4 g lab (k + 1) (wr.setCell ⟨g, k * 2 + 1, none⟩ u) := by
 obtain ⟨cs, h1, h2⟩ := h.row
 refine ⟨⟨_, setCell_blk u h1, fun j x hj hx => ?_⟩, h.apart.setC ⟨g, k * 2 + 1, none⟩ (.inl rfl) u⟩
 rw [Array.getElem?_setIfInBounds_ne (by omega)]
 exact h2 j x (by omega) hx
theorem OwnTo.start {w4 : World} {base g n c : Nat} {lab : List Lb} (hn : n = lab.length) (h : w4.ownsRow base 80 2 (.slice (some ⟨g, 0, none⟩) n c) n (lab.flatMap Lb.enc)) : OwnTo w4 g lab 0 w4 := by
 obtain ⟨A, c', e, -, -, -, -, hr⟩ := own_slc lb_len hn h
 cases e
 rcases h.2 with ⟨e, _⟩ | ⟨g', cap, cur, e1, _, hg, _⟩
 ·cases e
 ·cases e1
  refine ⟨⟨cur, hg, fun j x _ hx => ?_⟩, Apart.refl _ _⟩
  obtain ⟨b, off, e2, hc⟩ := hr j x hx
  cases e2
  have h1 := hc 1 (.string x.v) rfl
  have h2 := blk_cell hg (j * 2 + 1)
  rw [← h2, ← h1]
  congr 2
  omega
end Go.Proofs.YtlhmdgaohonpbaaGreatDoor

namespace Go.Proofs.YtlhmdgaohonpbaaGreatDoor
open Go.RowKit Go.Proofs.YtlhmdgaohonpbaaGreatDoor.MapRaw Go.ChangeMaps
set_option maxRecDepth 100000 in
set_option maxHeartbeats 4000000 in
theorem law_does {D : Nat → Prop} {w0 : World} {xb yb : Nat} {I : Ix} (o : OpV) (w : World) (h : Both w0 xb yb I w) (hlv : SlL w0 D o.lv o.lab) (hs : SmallL o.lab) (hn : I.all.length ≤ 100000) (hT : Tabs w0) (h2 : 2 ≤ w0.heap.size) :
  Calls Tryz.prog 24 #[.pointer (some ⟨xb, 0, none⟩), .pointer (some ⟨yb, 0, none⟩), .agg #[.bool o.cut, .int .u64 o.ref, o.lv]] w fun e w' => e = .returned (.bool true) ∧ Both w0 xb yb (opI I o.op) w' := by
 obtain ⟨X, ab, rb, hb, inner, v, l, hBo, hkeys⟩ := h
 obtain ⟨cut, ref, lv, lab⟩ := o
 simp only at hlv hs ⊢
 have hll : l.length ≤ 1000000 := by have := congrArg List.length hkeys; rw [List.length_map] at this; omega
 obtain ⟨Al, cl, rfl, -⟩ := id hlv
 obtain ⟨n, hnn⟩ : ∃ n, n = lab.length := ⟨_, rfl⟩
 rw [← hnn] at hlv ⊢
 have HLV := Lib.hid fun (W : World) (hW : Below w0.heap.size w0 W) => Slc.below hlv hW
 have hg : Below w.heap.size w (w.alloc (.cells #[.bool cut, .int .u64 ref, .slice Al n cl] 54)) := balloc (Below.refl _ _) _
 have hBo1 := hBo.then hg
 have x0 : (w.alloc (.cells #[.bool cut, .int .u64 ref, .slice Al n cl] 54)).cell? ⟨w.heap.size, 0, none⟩ = some (.bool cut) := by simp
 have x1 : (w.alloc (.cells #[.bool cut, .int .u64 ref, .slice Al n cl] 54)).cell? ⟨w.heap.size, 1, none⟩ = some (.int .u64 ref) := by simp
 have x2 : (w.alloc (.cells #[.bool cut, .int .u64 ref, .slice Al n cl] 54)).cell? ⟨w.heap.size, 2, none⟩ = some (.slice Al n cl) := by simp
 have hgs : w.heap.size < (w.alloc (.cells #[.bool cut, .int .u64 ref, .slice Al n cl] 54)).heap.size := by simp
 obtain ⟨W, hW⟩ : ∃ W, W = w.alloc (.cells #[.bool cut, .int .u64 ref, .slice Al n cl] 54) := ⟨_, rfl⟩
 rw [← hW] at hg hBo1 x0 x1 x2 hgs
 have hgX : ∀ k ∈ X, k < w.heap.size := hBo.ix.lt
 have HW := Lib.hid hW
 cases cut with
 | true =>
  -- the two calls
  have HCutX : Hid (∀ U : World, Below W.heap.size W U → Calls Tryz.prog 40 #[.pointer (some ⟨xb, 0, none⟩), .int .u64 ref] U fun e w' => e = .returned (.int .i64 (if (mget I.all ref).isSome = true then 0 else 101)) ∧ ∃ X' inner', BoMid w0 xb yb [] (cutI I ref) X' ab rb hb inner' v l w' ∧ w'.cell? ⟨w.heap.size, 1, none⟩ = some (.int .u64 ref)) := Lib.hid (fun U hU => by
   refine (bo_cut ref (hBo1.then hU)).mono ?_
   rintro e w' ⟨he, X', inner', h1, hA⟩
   exact ⟨he, X', inner', h1, hA.cell (fun hk => by have := hgX _ (hBo.ix.sub _ hk); omega) (later hU x1)⟩)
  have HCutY : Hid (∀ (U : World) X' inner', BoMid w0 xb yb [] (cutI I ref) X' ab rb hb inner' v l U → U.cell? ⟨w.heap.size, 1, none⟩ = some (.int .u64 ref) → Calls Tryz.prog 55 #[.pointer (some ⟨yb, 0, none⟩), .int .u64 ref] U fun e w' => e = .returned (.int .i64 (if (mget I.all ref).isSome = true then 0 else 101)) ∧ Both w0 xb yb (opI I ⟨true, ref, lab⟩) w' ∧ w'.cell? ⟨w.heap.size, 1, none⟩ = some (.int .u64 ref)) := Lib.hid (fun U X' inner' hU hcU => by
   rw [← hkeys]
   refine (bo_cutY ref hU hll).mono ?_
   rintro e w' ⟨he, X2, v', l', h1, h3, hA⟩
   refine ⟨he, ⟨X2, ab, rb, hb, inner', v', l', ?_, ?_⟩, hA.cell (fun hk => by have := hBo.y.lt _ hk; omega) hcU⟩
   ·exact h1.with (hBo.ok.cut ref).1
   ·rw [h3, hkeys]; exact (cut_all I ref).symm)
  generalize (if (mget I.all ref).isSome = true then (0 : Int) else 101) = code at *
  clear hBo hBo1 hlv hs hkeys hll hgX hW hnn hgs
  go_enter Tryz.func24, Tryz.ntmps24
  go_upto_region 2 with fail
  rw [← HW.out]
  have y1 : W.drew.cell? ⟨w.heap.size, 1, none⟩ = some (.int .u64 ref) := x1
  clear x1 x0 x2
  go_region_held3 (fun w' => w'.cell? ⟨w.heap.size, 1, none⟩ = some (.int .u64 ref)) (first | exact y1 | exact y5 | exact y6)
   (first | (go_at_call 40; refine (HCutX.out _ (bdrew (Below.refl _ _))).mono ?_; rintro e w5 ⟨rfl, X5, inner5, h5, y5⟩) | (go_at_call 55; refine (HCutY.out w5 X5 inner5 h5 y5).mono ?_; rintro e w6 ⟨rfl, h6, y6⟩))
  all_goals
   have H6 := Lib.hid h6
   clear h6 h5 y6 y5 y1
   go_wp2_with fail
   go_ret
   exact ⟨rfl, H6.out⟩
 | false =>
  have hx1 : ∀ k, w.heap.size ≤ k → k ∉ X := fun k hk hX => by have := hgX k hX; omega
  have hsz := hs.sz
  have HSm := Lib.hid hs
  have hn30 : n ≤ 30 := by rw [hnn]; exact hs.1
  have Hn := Lib.hid hnn
  have HBo1 := Lib.hid hBo1
  have HLs := Lib.hid hgs
  have HSrc := Lib.hid fun (U : World) (hU : Below w0.heap.size w0 U) => (HLV.out U hU).src lb_len lb_one (by decide)
  rw [← hnn] at HSrc
  -- x.Add of the own labels
  have HAddX : Hid (∀ (U : World) (ov : Value), Below W.heap.size W U → U.ownsRow W.heap.size 80 2 ov n (lab.flatMap Lb.enc) → Calls Tryz.prog 15 #[.pointer (some ⟨xb, 0, none⟩), .int .u64 ref, ov] U fun e w' => e = .returned (.int .i64 (addErr I ref lab)) ∧ ∃ X' inner', BoMid w0 xb yb (moreY [] ov) (if addErr I ref lab = 0 then addI I ref lab else I) X' ab rb hb inner' v l w' ∧ w'.ownsRow W.heap.size 80 2 ov n (lab.flatMap Lb.enc) ∧ w'.cell? ⟨w.heap.size, 1, none⟩ = some (.int .u64 ref) ∧ w'.cell? ⟨w.heap.size, 2, none⟩ = some (.slice Al n cl)) := Lib.hid (fun U ov hU hO => by
   have hb1 := hBo1.addOwn hU hO
   refine (bo_add ref ov lab hb1 (own_slc lb_len hnn hO) (fun k hk e => by have := hgX k (hBo.ix.sub k (by rw [e]; simp)); omega) hsz hT h2).mono ?_
   rintro e w' ⟨he, X', inner', h1, hA⟩
   have hno : ∀ k, w.heap.size ≤ k → ¬ blksI ab rb hb inner k := fun k hk hi => hx1 k hk (hBo.ix.sub k hi)
   exact ⟨he, X', inner', h1, ownsRow_move hO (fun k hk => hA.block k (ownsRow_blk hO k hk).2 (hno k (by have := (ownsRow_blk hO k hk).1; omega))), hA.cell (hno _ (Nat.le_refl _)) (later hU x1), hA.cell (hno _ (Nat.le_refl _)) (later hU x2)⟩)
  have HAddY : Hid (∀ (U : World) (ov : Value) X' inner', BoMid w0 xb yb (moreY [] ov) (if addErr I ref lab = 0 then addI I ref lab else I) X' ab rb hb inner' v l U → U.ownsRow W.heap.size 80 2 ov n (lab.flatMap Lb.enc) → U.cell? ⟨w.heap.size, 1, none⟩ = some (.int .u64 ref) → U.cell? ⟨w.heap.size, 2, none⟩ = some (.slice Al n cl) → Calls Tryz.prog 56 #[.pointer (some ⟨yb, 0, none⟩), .int .u64 ref, .slice Al n cl] U fun e w' => e = .returned (.int .i64 (addErr I ref lab)) ∧ (∃ X2 v' l', Bo w0 xb yb (moreY [] ov) (opI I ⟨false, ref, lab⟩) X2 ab rb hb inner' v' l' w' ∧ l'.map Sx.key = (opI I ⟨false, ref, lab⟩).all) ∧ w'.ownsRow W.heap.size 80 2 ov n (lab.flatMap Lb.enc) ∧ w'.cell? ⟨w.heap.size, 1, none⟩ = some (.int .u64 ref) ∧ w'.cell? ⟨w.heap.size, 2, none⟩ = some (.slice Al n cl)) := Lib.hid (fun U ov X' inner' hU hO hc1 hc2 => by
   have hadd := add_same10 hBo.ok ref lab
   rw [hadd, ← hkeys]
   refine (bo_addY ref (.slice Al n cl) lab hU (HLV.out U hU.below) hsz hll).mono ?_
   rintro e w' ⟨he, X2, v', l', h1, h3, hA⟩
   have hno : ∀ k, w.heap.size ≤ k → ¬ blksY yb v k := fun k hk hi => by have := hBo.y.lt k hi; omega
   have hopI : opI I ⟨false, ref, lab⟩ = if addErr I ref lab = 0 then addI I ref lab else I := by unfold opI; rw [if_neg (by simp)]
   have hok := opI_ok hBo.ok ⟨false, ref, lab⟩
   refine ⟨he, ⟨X2, v', l', ?_, ?_⟩, ownsRow_move hO (fun k hk => hA.block k (ownsRow_blk hO k hk).2 (hno k (by have := (ownsRow_blk hO k hk).1; omega))), hA.cell (hno _ (Nat.le_refl _)) hc1, hA.cell (hno _ (Nat.le_refl _)) hc2⟩
   ·rw [hopI] at hok ⊢
    exact h1.with hok
   ·rw [h3, op_all hBo.ok, hkeys]; simp [opY])
  generalize addErr I ref lab = code at *
  clear hBo hBo1 hlv hs hsz hkeys hll hgX hx1 hW hnn hgs
  go_enter Tryz.func24, Tryz.ntmps24
  go_upto_region 3 with fail
  rw [← HW.out]
  clear HW
  have HBa : Hid (Below W.heap.size W (W.alloc (.cells #[] 80))) := Lib.hid (balloc (Below.refl _ _) _)
  have hsrc := HSrc.out _ (bthen HBo1.out.below HBa.out)
  have HSr := Lib.hid hsrc
  have HO := Lib.hid (World.ownsRow_lit (base := W.heap.size) (e := 80) (size := 2) W #[] 0 (Nat.le_refl _) (by decide) rfl)
  have y2 := later HBa.out x2
  clear hsrc
  go_wp2_with (at_builtin; refine wpList_app (w0 := W) W.heap.size rfl _ _ 29 80 _ 2 32 n (lab.flatMap Lb.enc) rfl Tryz.underlying29 info_lb10 rfl (by decide) (by decide) (.slice (some ⟨W.heap.size, 0, none⟩) 0 0) 0 [] ?hs1 ?hx1 HO.out HBa.out (by simp) (by omega) ?_)
  try (case hs1 => rfl)
  case hx1 => exact HSr.out
  intro v4 w4 hO4 hB4 hg4 hat4
  try simp only [Nat.zero_add, List.nil_append] at hO4
  obtain ⟨A4, c4, rfl⟩ := own_slice hO4
  have hcx := HAddX.out w4.drew _ (bdrew hB4) (own_below hO4 (bdrew (Below.refl _ _)))
  have HCx := Lib.hid hcx
  have y1 : w4.drew.cell? ⟨w.heap.size, 1, none⟩ = some (.int .u64 ref) := later hB4 x1
  have y2 : w4.drew.cell? ⟨w.heap.size, 2, none⟩ = some (.slice Al n cl) := later hB4 x2
  clear hO4 hB4 hg4 hat4 hcx HAddX HO HSr HBa x0 x1 x2
  go_wp2_with fail
  go_region_held3 (fun w' => w'.cell? ⟨w.heap.size, 1, none⟩ = some (.int .u64 ref) ∧ w'.cell? ⟨w.heap.size, 2, none⟩ = some (.slice Al n cl)) (first | exact ⟨y1, y2⟩ | exact ⟨y5, z5⟩ | exact ⟨y6, z6⟩)
   (first | (go_at_call 15; refine HCx.out.mono ?_; rintro e w5 ⟨rfl, X5, inner5, h5, o5, y5, z5⟩) | (go_at_call 56; refine (HAddY.out w5 _ X5 inner5 h5 o5 y5 z5).mono ?_; rintro e w6 ⟨rfl, ⟨X6, v6, l6, h6, k6⟩, o6, y6, z6⟩))
  all_goals
   have H6 := Lib.hid h6
   have K6 := Lib.hid k6
   have O6 := Lib.hid o6
   clear h6 k6 o6 h5 o5 y5 z5 y6 z6 y1 y2
   go_wp2_with fail
   go_loopw [39] (fun i wr => ∃ k : Nat, k ≤ n ∧ i = .int .i64 k ∧ (∀ g, A4 = some ⟨g, 0, none⟩ → OwnTo w6 g lab k wr) ∧ Apart (fun b => b ∈ moreY [] (.slice A4 n c4)) w6 wr) (fun i _ => n - (intOf i).toNat)
   case atStart => exact ⟨0, Nat.zero_le _, rfl, fun g e => by have h := O6.out; rw [e] at h; exact OwnTo.start Hn.out h, Apart.refl _ _⟩
   case round =>
    obtain ⟨k, hk, rfl, hE, hA⟩ := hrel
    by_cases hlt : k < n
    ·have hkl : k < lab.length := by rw [← Hn.out]; exact hlt
     have hex : ∃ g, A4 = some ⟨g, 0, none⟩ := by
      rcases O6.out.2 with ⟨_, e⟩ | ⟨g, cap, cur, e, _⟩
      ·omega
      ·cases e; exact ⟨g, rfl⟩
     obtain ⟨g, hg4⟩ := hex
     obtain ⟨cs, hb, hcs⟩ := (hE g hg4).row
     have hz := hcs k _ (Nat.le_refl _) (List.getElem?_eq_getElem hkl)
     have cz : wr.cell? ⟨g, k * 2 + 1, none⟩ = some (.string lab[k].v) := (blk_cell hb _).trans hz
     have fz : wr.frozen? ⟨g, k * 2 + 1, none⟩ = false := free_blk (i := k * 2 + 1) hb
     have hsv := (HSm.out.2 _ (List.getElem_mem hkl)).2
     have HNx := Lib.hid fun (u : Value) => (hE g hg4).next u
     have HAx := Lib.hid fun (u : Value) => Apart.setC hA ⟨g, k * 2 + 1, none⟩ (.inl (mem_moreY.2 (.inl (by rw [hg4]; rfl)))) u
     generalize lab[k].v = yv at *
     subst hg4
     clear hE hA hb hcs hz
     go_wp2_with fail
     go_roundw
     case rel => exact ⟨k + 1, by omega, by go_num, fun g' e => by cases e; exact HNx.out _, HAx.out _⟩
     case measure => simp [intOf] <;> omega
    ·have HA := Lib.hid hA
     clear hE hA
     go_wp2_with fail
     go_ret
     exact ⟨rfl, X6, ab, rb, hb, inner5, v6, l6, (H6.out.turnF HA.out).forget, K6.out⟩
end Go.Proofs.YtlhmdgaohonpbaaGreatDoor

namespace Go.Proofs.YtlhmdgaohonpbaaGreatDoor
open Go.RowKit Go.Proofs.YtlhmdgaohonpbaaGreatDoor.MapRaw Go.ChangeMaps
def bigX (x : Lb) : Bool := decide (200 < x.n.size) || decide (200 < x.v.size)
def bigB (l : List Lb) : Bool := decide (30 < l.length) || l.any bigX
theorem big_small {l : List Lb} (h : bigB l = false) : SmallL l := by
 unfold bigB at h
 rw [Bool.or_eq_false_iff] at h
 refine ⟨by have := of_decide_eq_false h.1; omega, fun x hx => ?_⟩
 have h2 := (List.any_eq_false.1 h.2) x hx
 unfold bigX at h2
 simp at h2
 omega
set_option maxRecDepth 100000 in
set_option maxHeartbeats 1000000 in
theorem law_big {D : Nat → Prop} (v : Value) (l : List Lb) (w : World) (hv : SlL w D v l) :
  Calls Tryz.prog 13 #[v] w fun e w' => e = .returned (.bool (bigB l)) ∧ Below w.heap.size w w' := by
 obtain ⟨A, c, rfl, p1, p2, -, -, p5⟩ := hv
 have HRd := Lib.hid fun (W : World) (hW : Below w.heap.size w W) => RdL.below p5 hW
 have hm9 : l.length ≤ 9223372036854775807 := by simp only [maxLen] at p2; omega
 obtain ⟨m, hm⟩ : ∃ m, m = l.length := ⟨_, rfl⟩
 have Hm := Lib.hid hm
 unfold bigB
 rw [← hm] at hm9 ⊢
 clear p1 p2 p5 hm
 by_cases h30 : 30 < m
 ·have hd : decide ((m : Int) > 30) = true := decide_eq_true (by omega)
  have hd' : decide ((30 : Int) < (m : Int)) = true := decide_eq_true (by omega)
  rw [decide_eq_true h30, Bool.true_or]
  clear h30
  go_enter Tryz.func13, Tryz.ntmps13
  go_wp2_with fail
  go_ret
  exact ⟨rfl, Below.refl _ _⟩
 ·have hd : decide ((m : Int) > 30) = false := decide_eq_false (by omega)
  have hd' : decide ((30 : Int) < (m : Int)) = false := decide_eq_false (by omega)
  rw [decide_eq_false h30, Bool.false_or]
  have HAny : Hid (l.any bigX = l.any bigX) := Lib.hid rfl
  generalize hres : l.any bigX = res at *
  have HRes := Lib.hid hres
  clear h30 HAny hres
  go_enter Tryz.func13, Tryz.ntmps13
  go_wp2_with fail
  go_loopw [10] (fun i wr => ∃ k : Nat, k ≤ m ∧ i = .int .i64 k ∧ AnyTo bigX l k ∧ Below w.heap.size w wr) (fun i _ => m - (intOf i).toNat)
  case atStart => exact ⟨0, Nat.zero_le _, rfl, AnyTo.start _ _, Below.refl _ _⟩
  case round =>
   obtain ⟨k, hk, rfl, hE, hB⟩ := hrel
   have HBr := Lib.hid hB
   by_cases hlt : k < m
   ·have hkl : k < l.length := by rw [← Hm.out]; exact hlt
    obtain ⟨b, off, e1, z0, z1⟩ := RdL.at_ (HRd.out wr hB) hkl
    cases e1
    have hRd := hE.round hkl
    generalize l[k] = x at *
    obtain ⟨xn, xv⟩ := x
    simp only at z0 z1
    have hbx : bigX ⟨xn, xv⟩ = (decide (200 < xn.size) || decide (200 < xv.size)) := rfl
    rw [hbx] at hRd
    have HRnd := Lib.hid hRd
    have HBw := Lib.hid (bthen hB (balloc (Below.refl wr.heap.size wr) (.cells #[.string xn, .string xv] 80)))
    clear hE hB hRd hbx
    by_cases hn2 : 200 < xn.size
    ·have e1 : decide ((xn.size : Int) > 200) = true := decide_eq_true (by omega)
     have e2 : decide ((200 : Int) < (xn.size : Int)) = true := decide_eq_true (by omega)
     have HE : Hid (res = true) := Lib.hid (by rw [← HRes.out]; rcases HRnd.out with ⟨-, g⟩ | ⟨g, -⟩; exact g; rw [decide_eq_true hn2] at g; cases g)
     clear hn2
     go_wp2_with fail
     go_ret
     exact ⟨ret_bool HE.out.symm, HBw.out⟩
    ·have e1 : decide ((xn.size : Int) > 200) = false := decide_eq_false (by omega)
     have e2 : decide ((200 : Int) < (xn.size : Int)) = false := decide_eq_false (by omega)
     by_cases hv2 : 200 < xv.size
     ·have e3 : decide ((xv.size : Int) > 200) = true := decide_eq_true (by omega)
      have e4 : decide ((200 : Int) < (xv.size : Int)) = true := decide_eq_true (by omega)
      have HE : Hid (res = true) := Lib.hid (by rw [← HRes.out]; rcases HRnd.out with ⟨-, g⟩ | ⟨g, -⟩; exact g; rw [decide_eq_true hv2, Bool.or_true] at g; cases g)
      clear hn2 hv2
      go_wp2_with fail
      go_ret
      exact ⟨ret_bool HE.out.symm, HBw.out⟩
     ·have e3 : decide ((xv.size : Int) > 200) = false := decide_eq_false (by omega)
      have e4 : decide ((200 : Int) < (xv.size : Int)) = false := decide_eq_false (by omega)
      have HE : Hid (AnyTo bigX l (k + 1)) := Lib.hid (by rcases HRnd.out with ⟨g, -⟩ | ⟨-, g⟩; rw [decide_eq_false hn2, decide_eq_false hv2] at g; cases g; exact g)
      clear hn2 hv2
      go_wp2_with fail
      go_roundw
      case rel => exact ⟨k + 1, by omega, by go_num, HE.out, HBw.out⟩
      case measure => simp [intOf] <;> omega
   ·have hEd := hE.done (by rw [← Hm.out]; exact hlt)
    have HE : Hid (res = false) := Lib.hid (by rw [← HRes.out, hEd])
    clear hE hB hEd
    go_wp2_with fail
    go_ret
    exact ⟨ret_bool HE.out.symm, HBr.out⟩
def OpOk (w : World) (D : Nat → Prop) (l : List OpV) : Prop := ∀ o ∈ l, SlL w D o.lv o.lab
def muchB (l : List OpV) : Bool := decide (60 < l.length) || l.any (fun o => bigB o.lab)
theorem rdO_at {w : World} {A : Option Addr} {l : List OpV} (h : Rd 3 OpV.enc w A l) {k : Nat} (hk : k < l.length) :
  ∃ b off, A = some ⟨b, off, none⟩ ∧ w.cell? ⟨b, off + k * 3, none⟩ = some (.bool l[k].cut) ∧ w.cell? ⟨b, off + k * 3 + 1, none⟩ = some (.int .u64 l[k].ref) ∧ w.cell? ⟨b, off + k * 3 + 2, none⟩ = some l[k].lv := by
 obtain ⟨b, off, e, h⟩ := h k l[k] (List.getElem?_eq_getElem hk)
 exact ⟨b, off, e, h 0 _ rfl, h 1 _ rfl, h 2 _ rfl⟩
theorem much_small {l : List OpV} (h : muchB l = false) : l.length ≤ 60 ∧ ∀ o ∈ l, SmallL o.lab := by
 unfold muchB at h
 rw [Bool.or_eq_false_iff] at h
 refine ⟨by have := of_decide_eq_false h.1; omega, fun o ho => big_small ?_⟩
 have := (List.any_eq_false.1 h.2) o ho
 simpa using this
set_option maxRecDepth 100000 in
set_option maxHeartbeats 1000000 in
theorem law_much {D D1 : Nat → Prop} (v : Value) (l : List OpV) (w : World) (hv : Slc 3 OpV.enc w D v l) (ho : OpOk w D1 l) :
  Calls Tryz.prog 21 #[v] w fun e w' => e = .returned (.bool (muchB l)) ∧ Below w.heap.size w w' := by
 obtain ⟨A, c, rfl, p1, p2, -, -, p5⟩ := hv
 have HRd := Lib.hid fun (W : World) (hW : Below w.heap.size w W) => Rd.below p5 hW
 have HOk := Lib.hid ho
 have hm9 : l.length ≤ 9223372036854775807 := by simp only [maxLen] at p2; omega
 obtain ⟨m, hm⟩ : ∃ m, m = l.length := ⟨_, rfl⟩
 have Hm := Lib.hid hm
 unfold muchB
 rw [← hm] at hm9 ⊢
 clear p1 p2 p5 hm ho
 by_cases h30 : 60 < m
 ·have hd : decide ((m : Int) > 60) = true := decide_eq_true (by omega)
  have hd' : decide ((60 : Int) < (m : Int)) = true := decide_eq_true (by omega)
  rw [decide_eq_true h30, Bool.true_or]
  clear h30
  go_enter Tryz.func21, Tryz.ntmps21
  go_wp2_with fail
  go_ret
  exact ⟨rfl, Below.refl _ _⟩
 ·have hd : decide ((m : Int) > 60) = false := decide_eq_false (by omega)
  have hd' : decide ((60 : Int) < (m : Int)) = false := decide_eq_false (by omega)
  rw [decide_eq_false h30, Bool.false_or]
  generalize hres : (l.any fun o => bigB o.lab) = res at *
  have HRes := Lib.hid hres
  clear h30 hres
  go_enter Tryz.func21, Tryz.ntmps21
  go_wp2_with fail
  go_loopw [10] (fun i wr => ∃ k : Nat, k ≤ m ∧ i = .int .i64 k ∧ AnyTo (fun o : OpV => bigB o.lab) l k ∧ Below w.heap.size w wr) (fun i _ => m - (intOf i).toNat)
  case atStart => exact ⟨0, Nat.zero_le _, rfl, AnyTo.start _ _, Below.refl _ _⟩
  case round =>
   obtain ⟨k, hk, rfl, hE, hB⟩ := hrel
   have HBr := Lib.hid hB
   by_cases hlt : k < m
   ·have hkl : k < l.length := by rw [← Hm.out]; exact hlt
    obtain ⟨b, off, e1, z0, z1, z2⟩ := rdO_at (HRd.out wr hB) hkl
    cases e1
    have hRd := hE.round hkl
    have hx := HOk.out _ (List.getElem_mem hkl)
    generalize l[k] = x at *
    obtain ⟨cut, ref, lv, lab⟩ := x
    simp only at z0 z1 z2 hRd hx
    have hbig := fun (W : World) (hW : Below w.heap.size w W) => law_big lv lab W (hx.below hW)
    have HBig := Lib.hid hbig
    obtain ⟨A2, c2, rfl, -⟩ := hx
    generalize bigB lab = bz at *
    have HRnd := Lib.hid hRd
    generalize lab.length = nl at *
    have HBw := Lib.hid (bthen hB (balloc (Below.refl wr.heap.size wr) (.cells #[.bool cut, .int .u64 ref, .slice A2 nl c2] 54)))
    clear hE hB hRd hbig
    go_wp2_with fail
    refine (HBig.out _ HBw.out).mono ?_
    rintro e w5 ⟨rfl, hb5⟩
    have HB5 := Lib.hid (bthen HBw.out hb5)
    clear hb5
    cases bz with
    | true =>
     have HE : Hid (res = true) := Lib.hid (by rw [← HRes.out]; rcases HRnd.out with ⟨-, g⟩ | ⟨g, -⟩; exact g; cases g)
     go_wp2_with fail
     go_ret
     exact ⟨ret_bool HE.out.symm, HB5.out⟩
    | false =>
     have HE : Hid (AnyTo (fun o : OpV => bigB o.lab) l (k + 1)) := Lib.hid (by rcases HRnd.out with ⟨g, -⟩ | ⟨-, g⟩; cases g; exact g)
     go_wp2_with fail
     go_roundw
     case rel => exact ⟨k + 1, by omega, by go_num, HE.out, HB5.out⟩
     case measure => simp [intOf] <;> omega
   ·have hEd := hE.done (by rw [← Hm.out]; exact hlt)
    have HE : Hid (res = false) := Lib.hid (by rw [← HRes.out, hEd])
    clear hE hB hEd
    go_wp2_with fail
    go_ret
    exact ⟨ret_bool HE.out.symm, HBr.out⟩
end Go.Proofs.YtlhmdgaohonpbaaGreatDoor

namespace Go.Proofs.YtlhmdgaohonpbaaGreatDoor
open Go.RowKit Go.Proofs.YtlhmdgaohonpbaaGreatDoor.MapRaw Go.ChangeMaps
theorem both_start {w0 w w1 : World} (hb0 : Below w0.heap.size w0 w) {e : Ending} (h : AddNewPost w e w1) : ∃ xb, e = .returned (.pointer (some ⟨xb, 0, none⟩)) ∧ Below w.heap.size w w1 ∧ Both w0 xb w1.heap.size ix0 (w1.alloc (.cells #[.slice none 0 0] 52)) := by
 obtain ⟨xb, ab, rb, hb, he, hix, ⟨n1, n2, n3, n4, n5, n6, n7, n8⟩, hb1⟩ := h
 have hs0 := hb0.size
 have hb2 : Below w1.heap.size w1 (w1.alloc (.cells #[.slice none 0 0] 52)) := balloc (Below.refl _ _) _
 have hm : MoreX w1 [ab, rb, hb] (w1.heap.size :: [ab, rb, hb]) := ⟨fun k hk => List.mem_cons_of_mem _ hk, fun k hk => (List.mem_cons.1 hk).elim (fun e => .inr (Nat.le_of_eq e.symm)) .inl⟩
 refine ⟨xb, he, hb1, w1.heap.size :: [ab, rb, hb], ab, rb, hb, [], .slice none 0 0, [], ⟨?_, ⟨blk_new w1 _, ⟨rfl, .inl ⟨rfl, rfl⟩⟩, (fun j hj => by cases hj), by simp, (fun x hx => by simp at hx)⟩, IxOk.start, ?_, (fun k hk => by simp at hk), ?_, ?_, by omega, bthen hb0 (bthen hb1 hb2)⟩, rfl⟩
 ·exact hix.move hb2.size (fun k hk _ => hb2.block k hk) (fun k hk hX => hm.out hk hX) hm.old (fun k hk => by
   rcases List.mem_cons.1 hk with rfl | hk
   ·simp
   ·exact Nat.lt_of_lt_of_le (hix.lt k hk) hb2.size)
 ·intro k hk hi
  rcases hk with rfl | hk
  ·have := hix.lt _ (hix.sub _ hi); omega
  ·cases hk
 ·simp; exact ⟨by omega, n5, n6, n7⟩
 ·intro k hk
  simp at hk
  rcases hk with rfl | rfl | rfl | rfl
  ·have := hb1.size; omega
  ·omega
  ·omega
  ·omega
theorem add_len (I : Ix) (h : IxOk I) (o : Op10) : (opI I o).all.length ≤ I.all.length + 1 := by rw [op_all h]; exact opY_len _ _
theorem Both.ok {w0 w : World} {xb yb : Nat} {I : Ix} (h : Both w0 xb yb I w) : IxOk I := by
 obtain ⟨X, ab, rb, hb, inner, v, l, h1, h2⟩ := h
 exact h1.ok
end Go.Proofs.YtlhmdgaohonpbaaGreatDoor

namespace Go.Proofs.YtlhmdgaohonpbaaGreatDoor
open Go.RowKit Go.Proofs.YtlhmdgaohonpbaaGreatDoor.MapRaw Go.ChangeMaps
def opsI (l : List OpV) (I : Ix) : Ix := l.foldl (fun I o => opI I o.op) I
theorem opsI_take (l : List OpV) (k : Nat) (hk : k < l.length) (I : Ix) : opsI (l.take (k + 1)) I = opI (opsI (l.take k) I) l[k].op := by
 unfold opsI
 rw [List.take_succ_eq_append_getElem hk, List.foldl_append]; rfl
def LaidPost (w : World) (l : List OpV) (e : Ending) (w' : World) : Prop := ∃ xb yb, e = .returned (.tuple #[.pointer (some ⟨xb, 0, none⟩), .pointer (some ⟨yb, 0, none⟩), .bool true]) ∧ Both w xb yb (opsI l ix0) w' ∧ (opsI l ix0).all.length ≤ l.length
set_option maxRecDepth 100000 in
set_option maxHeartbeats 2000000 in
theorem law_laid {D D1 : Nat → Prop} (v : Value) (l : List OpV) (w0 w : World) (hb0 : Below w0.heap.size w0 w) (hv : Slc 3 OpV.enc w0 D v l) (ho : OpOk w0 D1 l) (hmu : muchB l = false) (hT : Tabs w0) (h2 : 2 ≤ w0.heap.size) :
  Calls Tryz.prog 22 #[v] w (LaidPost w0 l) := by
 obtain ⟨A, c, rfl, p1, p2, -, -, p5⟩ := hv
 have HRd := Lib.hid p5
 have hm9 : l.length ≤ 9223372036854775807 := by simp only [maxLen] at p2; omega
 unfold LaidPost
 obtain ⟨m, hm⟩ : ∃ m, m = l.length := ⟨_, rfl⟩
 have Hm := Lib.hid hm
 rw [← hm] at hm9 ⊢
 have HDo : Hid (∀ (W : World) (xb yb : Nat) (I : Ix) (o : OpV), o ∈ l → Both w0 xb yb I W → I.all.length ≤ 100 → Calls Tryz.prog 24 #[.pointer (some ⟨xb, 0, none⟩), .pointer (some ⟨yb, 0, none⟩), .agg #[.bool o.cut, .int .u64 o.ref, o.lv]] W fun e w' => e = .returned (.bool true) ∧ Both w0 xb yb (opI I o.op) w') := Lib.hid (fun W xb yb I o hoo hB hI => law_does o W hB (ho o hoo) ((much_small hmu).2 o hoo) (by omega) hT h2)
 have hm60 : m ≤ 60 := by rw [hm]; exact (much_small hmu).1
 have HOk := Lib.hid ho
 have HB0 := Lib.hid hb0
 have HFin : Hid (opsI (l.take m) ix0 = opsI l ix0) := Lib.hid (by rw [List.take_of_length_le (by omega)])
 clear ho hm p1 p2 p5 hT hmu hb0
 go_enter Tryz.func22, Tryz.ntmps22
 go_wp2_with fail
 refine (postings_new w).mono ?_
 intro e w4 hp
 obtain ⟨xb, rfl, hb, hB4⟩ := both_start HB0.out hp
 have HBo := Lib.hid hB4
 clear hp hb hB4
 go_wp2_with fail
 obtain ⟨yb, hyb⟩ : ∃ yb, yb = w4.heap.size := ⟨_, rfl⟩
 rw [← hyb] at HBo ⊢
 generalize w4.alloc (.cells #[.slice none 0 0] 52) = W4 at *
 clear hyb
 go_loopw [16] (fun i wr => ∃ (k : Nat) (I : Ix), k ≤ m ∧ i = .int .i64 k ∧ I = opsI (l.take k) ix0 ∧ Both w0 xb yb I wr ∧ I.all.length ≤ k) (fun i _ => m - (intOf i).toNat)
 case atStart => exact ⟨0, ix0, Nat.zero_le _, rfl, rfl, HBo.out, by simp [ix0]⟩
 case round =>
  obtain ⟨k, I, hk, rfl, hIe, hB, hI⟩ := hrel
  have HIe := Lib.hid hIe
  have hbel : Below w0.heap.size w0 wr := by obtain ⟨X, ab, rb, hb, inner, v, l, h1, h2⟩ := hB; exact h1.below
  by_cases hlt : k < m
  ·have hkl : k < l.length := by rw [← Hm.out]; exact hlt
   obtain ⟨b, off, e1, z0, z1, z2⟩ := rdO_at (HRd.out.below hbel) hkl
   cases e1
   have hx := HOk.out _ (List.getElem_mem hkl)
   have hdo := fun (W : World) (hW : Both w0 xb yb I W) => HDo.out W xb yb I l[k] (List.getElem_mem hkl) hW (by omega)
   have HSt := Lib.hid (opsI_take l k hkl ix0)
   generalize l[k] = x at *
   obtain ⟨cut, ref, lv, lab⟩ := x
   simp only at z0 z1 z2 hx hdo
   have HDo1 := Lib.hid hdo
   have HAll := Lib.hid (add_len I hB.ok (⟨cut, ref, lv, lab⟩ : OpV).op)
   obtain ⟨A2, c2, rfl, -⟩ := hx
   generalize lab.length = nl at *
   have HBw := Lib.hid (hB.then (balloc (Below.refl wr.heap.size wr) (.cells #[.bool cut, .int .u64 ref, .slice A2 nl c2] 54)))
   clear hB hdo hbel hIe
   go_wp2_with fail
   refine (HDo1.out _ HBw.out).mono ?_
   rintro e w6 ⟨rfl, hB6⟩
   have HB6 := Lib.hid hB6
   clear hB6
   go_wp2_with fail
   go_roundw
   case rel => exact ⟨k + 1, _, by omega, by go_num, by rw [HSt.out, ← HIe.out], HB6.out, by have := HAll.out; omega⟩
   case measure => simp [intOf] <;> omega
  ·have hkm : k = m := by omega
   subst hkm
   have HB := Lib.hid hB
   clear hB hbel hIe
   go_wp2_with fail
   go_ret3
   refine ⟨xb, yb, rfl, ?_, ?_⟩
   ·rw [← HFin.out, ← HIe.out]; exact HB.out
   ·rw [← HFin.out, ← HIe.out]; exact hI
end Go.Proofs.YtlhmdgaohonpbaaGreatDoor
