import Derived.Test.YtlhmdgaohonpbaaGreatDoorGLab
import Derived.Test.YtlhmdgaohonpbaaGreatDoorGBz
import Derived.Deep.Slices
import Derived.ReadAgain
import Derived.ProofKit
import Derived.OpenShut
import Derived.Lib.LaidU8T
import Derived.Below
import Derived.ChangeSame
import Derived.Test.YtlhmdgaohonpbaaGreatDoorCards
import Derived.Test.YtlhmdgaohonpbaaGreatDoorTie
import Derived.Deep.DeepHandedRow
set_option linter.unusedSimpArgs false
set_option linter.unusedVariables false
set_option linter.unusedSectionVars false
namespace Go.Proofs.YtlhmdgaohonpbaaGreatDoor
open Go.RowKit Go.ChangeShapes Go.WideShapes Go.Deep
theorem addr_of_cell {w : World} {a : Addr} {v : Value} (h : w.cell? a = some v) : a = ⟨a.block, a.off, none⟩ ∧ a.block < w.heap.size := by
 unfold World.cell? at h
 split at h
 ·rename_i c _ _ hb
  refine ⟨?_, (Array.getElem?_eq_some_iff.1 hb).1⟩
  cases hs : a.spot with
  | none => cases a; simp_all
  | some s => rw [hs] at h; simp at h
 ·cases h
section
variable {H : Type} {en : TypeId × Value → H} {w : World} {base : Nat}
theorem slc_of_open {α : Type} (d0 : α) {sz : Nat} {enc : α → List Value} (he : ∀ x, (enc x).length = sz) (hs0 : 0 < sz) {t e : TypeId} (ht : Tryz.prog.underlying t = some (.slice e)) (hc : Tryz.prog.cellsOf e = sz) (Q : α → Prop)
  (elem : ∀ (n : Nat) (cs' : List Value) (y : DataW H × List MemPlace), DataW.trod en Tryz.prog w base (fun _ => true) true n e cs' = some y → ∃ x : α, cs' = enc x ∧ Q x)
  {fuel : Nat} {cs : List Value} {x : DataW H × List MemPlace} (h : DataW.trod en Tryz.prog w base (fun _ => true) true fuel t cs = some x) :
  ∃ v l, cs = [v] ∧ Slc sz enc w (fun _ => True) v l ∧ ∀ x ∈ l, Q x := by
 rcases open_slice ht h with ⟨rfl, _⟩ | ⟨a, len, cap, m, n, D, Pl, rfl, hb, hl, hm, hmm, rfl, hx⟩
 ·exact ⟨_, [], rfl, Slc.nil _ _ _ _, fun x hx => by simp at hx⟩
 have hmc : m = cap := by simpa using hmm
 rw [hc] at hx
 have hx' : ∀ i, i < len → ∃ x : α, (∀ j u, (enc x)[j]? = some u → w.cell? ((a.add (i * sz)).add j) = some u) ∧ Q x := fun i hi => by
  obtain ⟨cs', h1, h2⟩ := hx i (by omega)
  obtain ⟨_, hlen, hcell⟩ := World.cells?_some h1
  obtain ⟨x, rfl, hq⟩ := elem _ _ _ h2
  refine ⟨x, fun j u hj => ?_, hq⟩
  have hj' : j < sz := by have := (List.getElem?_eq_some_iff.1 hj).1; rw [he] at this; exact this
  have := hcell j hj'
  rw [hj] at this
  exact this
 obtain ⟨f, hf⟩ := @choose_lt α ⟨d0⟩ len _ hx'
 have hll : ((List.range len).map f).length = len := by simp
 have hat : ∀ (i : Nat) (x : α), ((List.range len).map f)[i]? = some x → i < len ∧ x = f i := fun i x h => by
  have hi : i < len := by have := (List.getElem?_eq_some_iff.1 h).1; rwa [hll] at this
  rw [List.getElem?_map, List.getElem?_range hi] at h
  exact ⟨hi, (Option.some.inj h).symm⟩
 have hne : 0 < len → a = ⟨a.block, a.off, none⟩ ∧ a.block < w.heap.size := fun h0 => by
  have h1 := (hf 0 h0).1 0 ((enc (f 0))[0]'(by rw [he]; exact hs0)) (List.getElem?_eq_getElem _)
  have e : (a.add (0 * sz)).add 0 = a := by simp [Addr.add]
  rw [e] at h1
  exact addr_of_cell h1
 refine ⟨_, (List.range len).map f, rfl, ⟨some a, cap, by rw [hll], by rw [hll]; exact hl, hm, (fun e => by cases e), (fun ad e hn => ?_), ?_⟩, fun x hx => ?_⟩
 ·cases e
  have h0 : 0 < len := by
   cases len with
   | zero => exact (hn rfl).elim
   | succ k => omega
  obtain ⟨h1, h2⟩ := hne h0
  exact ⟨by rw [h1], trivial, h2⟩
 ·intro i x hx
  obtain ⟨hi, rfl⟩ := hat i x hx
  obtain ⟨h1, _⟩ := hne (by omega)
  refine ⟨a.block, a.off, by rw [← h1], fun j u hj => ?_⟩
  have := (hf i hi).1 j u hj
  rw [h1, add_plain, add_plain] at this
  exact this
 ·obtain ⟨i, hi, rfl⟩ := List.mem_map.1 hx
  exact (hf i (List.mem_range.1 hi)).2
theorem one_cell {P : Program} {r : Reach} {base : Nat} {t e : TypeId} {v v0 : Value} (ht : P.underlying t = some (.slice e)) (h : Value.okWide P w r base t v0) (hv : v0.cells.toList = [v]) : v = v0 := by
 simp only [Value.okWide, ht, Cell.okWide] at h
 cases v0 <;> simp_all [Cell.ok, Value.cells]
theorem two_of {α : Type} {l : List α} (h : l.length = 2) : ∃ a b, l = [a, b] := by
 match l, h with
 | [a, b], _ => exact ⟨a, b, rfl⟩
theorem cells_lbl : Tryz.prog.cellsOf 80 = 2 := by kernel_rfl
theorem cells_str : Tryz.prog.cellsOf 9 = 1 := by kernel_rfl
theorem cells_u64 : Tryz.prog.cellsOf 34 = 1 := by kernel_rfl
theorem cells_lbls : Tryz.prog.cellsOf 29 = 1 := by kernel_rfl
theorem lbl_shape : ∃ f0 f1 : Field, Tryz.prog.underlying 80 = some (.struct #[f0, f1]) ∧ f0.offset = 0 ∧ f1.offset = 1 ∧ f0.type = 9 ∧ f1.type = 9 :=
 ⟨_, _, Tryz.underlying80, rfl, rfl, rfl, rfl⟩
theorem open_lbls {fuel : Nat} {cs : List Value} {x : DataW H × List MemPlace} (h : DataW.trod en Tryz.prog w base (fun _ => true) true fuel 29 cs = some x) : ∃ v l, cs = [v] ∧ SlL w (fun _ => True) v l ∧ SzL l := by
 refine slc_of_open (sz := 2) (enc := Lb.enc) (⟨ByteArray.empty, ByteArray.empty⟩ : Lb) (fun x => rfl) (by decide) Tryz.underlying29 cells_lbl (fun x => x.n.size ≤ maxLen ∧ x.v.size ≤ maxLen) ?_ h
 intro n cs' y hy
 obtain ⟨f0, f1, hs, o0, o1, t0, t1⟩ := lbl_shape
 obtain ⟨xs, k, _, _, hlen, hxl, hf⟩ := DataW.trod_struct hs hy
 rw [cells_lbl] at hlen
 obtain ⟨v0, v1, rfl⟩ := two_of hlen
 obtain ⟨y0, y1, rfl⟩ := two_of hxl
 have g0 := hf 0 f0 rfl
 have g1 := hf 1 f1 rfl
 rw [o0, t0, cells_str] at g0
 rw [o1, t1, cells_str] at g1
 simp at g0 g1
 obtain ⟨s0, e0, _, b0⟩ := DataW.trod_string Tryz.underlying9 g0
 obtain ⟨s1, e1, _, b1⟩ := DataW.trod_string Tryz.underlying9 g1
 simp at e0 e1
 subst e0; subst e1
 exact ⟨⟨s0, s1⟩, rfl, b0, b1⟩
end
end Go.Proofs.YtlhmdgaohonpbaaGreatDoor

namespace Go.Proofs.YtlhmdgaohonpbaaGreatDoor
open Go.RowKit Go.ChangeShapes Go.WideShapes Go.Shelf
section
variable {H : Type} {enc : TypeId × Value → H} {P : Program}
theorem trod_below {W W' : World} {sp : Nat → Bool} {t : TypeId} {v : Value} {d : DataW H} {ps : List MemPlace} (h : DataW.Trod enc P W 0 sp true t v d ps) (hl : ∀ p ∈ ps, p.block < W.heap.size) (hb : Below W.heap.size W W') : DataW.Trod enc P W' 0 sp true t v d ps := by
 obtain ⟨n, hn⟩ := h
 refine ⟨n, DataW.trod_carry n _ _ _ hn fun p hp => ?_⟩
 have hlt := hl p hp
 cases p with
 | cell b off => exact World.cell?_of_block (hb.block b hlt)
 | map b => exact hb.block b hlt
theorem trodAll_below {W W' : World} {sp : Nat → Bool} : ∀ {ts : List TypeId} {vs : List Value} {ds : List (DataW H)} {ps : List MemPlace}, DataW.TrodAll enc P W 0 sp true ts vs ds ps → (∀ p ∈ ps, p.block < W.heap.size) → Below W.heap.size W W' → DataW.TrodAll enc P W' 0 sp true ts vs ds ps
 | [], [], [], _, h, _, _ => h
 | _ :: _, _ :: _, _ :: _, _, ⟨p, q, h1, h2, e⟩, hl, hb =>
  ⟨p, q, trod_below h1 (fun x hx => hl x (by rw [e]; exact List.mem_append_left _ hx)) hb, trodAll_below h2 (fun x hx => hl x (by rw [e]; exact List.mem_append_right _ hx)) hb, e⟩
theorem post_of_below {f : Func} {s : ChangeSpec} {apart fresh handsOn again : Bool} {W W' : World} {args : Array Value} {v : Value} {ds gs : List (DataW H)} {before pa pv : List MemPlace}
  (hW : DataW.Whole enc P f.params.toList s.vars apart W args.toList ds gs before)
  (hres : ∀ (b : Nat) (sp : Nat → Bool) (hd : Bool), DataW.TrodAll enc P W' b sp hd f.resultTypes.toList (v.resultList f.resultTypes.size) (s.fn H (ds ++ gs)).results [])
  (hargs : ∀ sp : Nat → Bool, (∀ p ∈ before, sp p.block = true) → DataW.TrodAll enc P W' 0 sp true f.params.toList args.toList (s.fn H (ds ++ gs)).args pa)
  (hvars : ∀ sp : Nat → Bool, (∀ p ∈ before, sp p.block = true) → DataW.TrodVars enc P W' sp s.vars (s.fn H (ds ++ gs)).vars pv)
  (hps : before = pa ++ pv) (hb : Below W.heap.size W W')
  (hok : ∀ (j : Nat) (t : TypeId) (r : Value), f.resultTypes[j]? = some t → (v.resultList f.resultTypes.size)[j]? = some r → Value.okWide P W' .any 0 t r) :
  s.post enc P f apart fresh handsOn again W args v W' := by
 have hlt : ∀ p ∈ before, p.block < W.heap.size := fun p hp => hW.lt p hp
 have hold : ∀ p ∈ before, (fun b => decide (b < W.heap.size)) p.block = true := fun p hp => by simpa using hlt p hp
 refine ⟨ds, gs, before, [], pa, pv, hW, hres _ _ _, hargs _ hold, hvars _ hold, World.keptBut_mono (fun p hp => ⟨hp, ?_⟩) (hb.frame (· ∈ before)), fun _ => ?_⟩
 ·rw [hps, List.mem_append] at hp
  exact Or.inr hp
 ·obtain ⟨_, _, _, _, _, hz, hn⟩ := hW
  refine ⟨hok, _, _, ([] ++ pa) ++ pv, ⟨[] ++ pa, pv, trodAll_append (hargs _ (fun _ _ => rfl)) (hres _ _ _), hvars _ (fun _ _ => rfl), rfl, ?_, ?_⟩, ?_⟩
  ·intro b off hp
   have hin : MemPlace.cell b off ∈ before := by rw [hps]; simpa using hp
   rw [hb.frozen (hlt _ hin)]
   exact hz b off hin
  ·intro ha
   have := hn ha
   rw [hps] at this
   simpa using this
  ·intro p hp _
   rw [hps]
   simpa using hp
end
theorem own : ownKnob Tryz.prog.godebug = none := by kernel_rfl
theorem kids : Kids Tryz.prog (· < Tryz.prog.types.size) := kids_rows (by kernel_rfl) (by kernel_rfl)
theorem full : ∀ t e, t < Tryz.prog.types.size → Tryz.prog.underlying t = some (.slice e) → 0 < Tryz.prog.cellsOf e := slices_full_of Tryz.prog (by kernel_rfl)
def TrueOk (W' : World) : Prop := Value.okWide Tryz.prog W' .any 0 4 (.bool true)
theorem true_ok (W' : World) : TrueOk W' := by
 unfold TrueOk
 simp [Value.okWide, Tryz.underlying4, Cell.okWide, Cell.ok]
set_option maxRecDepth 100000 in
theorem law_post {H : Type} {enc : TypeId × Value → H} {f : Func} {s : ChangeSpec} {fresh handsOn again : Bool} {W W' : World} {args : Array Value} {ds gs : List (DataW H)} {before : List MemPlace}
  (hW : DataW.Whole enc Tryz.prog f.params.toList s.vars false W args.toList ds gs before) (hv : s.vars = []) (hfn : s.fn H (ds ++ gs) = { results := [.lit (.bool true)], args := ds }) (hrt : f.resultTypes = #[4]) (hps : ∀ t ∈ f.params.toList, t < Tryz.prog.types.size)
  (hb : Below W.heap.size W W') : s.post enc Tryz.prog f false fresh handsOn again W args (.bool true) W' := by
 have hW' := hW
 obtain ⟨p, q, hA, hV, rfl, hz, hn⟩ := hW
 rw [hv] at hV
 obtain ⟨rfl, rfl⟩ := trodVars_none hV
 have hlt : ∀ x ∈ p, x.block < W.heap.size := fun x hx => hW'.lt x (List.mem_append_left _ hx)
 refine post_of_below (pa := p) (pv := []) hW' ?_ (fun sp hsp => ?_) (fun _ _ => ?_) rfl hb ?_
 ·intro b sp hd
  rw [hfn, hrt]
  exact trodAll_cons_mk (shut_bool Tryz.underlying4 _) trodAll_mk0
 ·rw [hfn]
  exact trodAll_below (hA.respare kids full hps (fun x hx => hsp x (List.mem_append_left _ hx))) hlt hb
 ·rw [hfn, hv]; rfl
 ·have hk := true_ok W'
  intro j t r hj hr
  rw [hrt] at hj hr
  match j, hj, hr with
  | 0, hj, hr =>
   obtain rfl : 4 = t := by simpa using hj
   obtain rfl : Value.bool true = r := by simpa [Value.resultList] using hr
   exact hk
  | j + 1, hj, _ => simp at hj
theorem u8extra : U8Extra Tryz.prog Tryz.lays196_ren := ⟨by kernel_rfl, by kernel_rfl, by kernel_rfl, by kernel_rfl, by kernel_rfl, by kernel_rfl, by kernel_rfl⟩
theorem first_eq : Rows.laid_unicode_utf8_first = Lib.firstData := by kernel_rfl
theorem acc_eq : (Rows.laid_unicode_utf8_acceptRanges : DataW Unit) = Lib.acceptData := by kernel_rfl
abbrev theLaid : List (String × DataW Unit) := [("unicode/utf8.acceptRanges", Rows.laid_unicode_utf8_acceptRanges), ("unicode/utf8.first", Rows.laid_unicode_utf8_first)]
theorem tabs_of {W : World} (h : laidMet Tryz.prog theLaid W) : Tabs W ∧ 2 ≤ W.heap.size := by
 have h1 := Lib.laidMet.reads h (.tail _ (.head _))
 have h2 := Lib.laidMet.reads h (.head _)
 rw [first_eq] at h1
 rw [acc_eq] at h2
 have hT : Tabs W := utf8Tabs_of_readsT (ρ := Tryz.lays196_ren) (U8Types.of196 Tryz.lays196) u8extra h1 h2
 refine ⟨hT, ?_⟩
 have a := World.block_lt_of_cell? _ _ (hT.1 0 (by decide))
 have b := World.block_lt_of_cell? _ _ (hT.2 0 (by decide)).1
 simp only at a b
 omega
noncomputable def laidHeap (H : Array Obj) : Array Obj :=
 (H.modify 0 (fun
  | .cells _ t frozen => .cells (Go.Pinned.utf8FirstZ.map (fun z : Nat => Value.int .u8 (z : Int))).toArray t frozen
  | o => o)).modify 1 (fun
  | .cells _ t frozen => .cells (([128, 191, 160, 191, 128, 159, 144, 191, 128, 143, 0, 0, 0, 0, 0, 0, 0, 0, 0, 0, 0, 0, 0, 0, 0, 0, 0, 0, 0, 0, 0, 0] : List Int).map (fun z => Value.int .u8 z)).toArray t frozen
  | o => o)
noncomputable def laidWorld (os : Os) : World :=
 { World.holding Tryz.prog os ⟨#[], #[], []⟩ with heap := laidHeap (World.holding Tryz.prog os ⟨#[], #[], []⟩).heap }
end Go.Proofs.YtlhmdgaohonpbaaGreatDoor
