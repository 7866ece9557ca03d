/- WHAT IS PROVED: for every input the law HeadNone returns true and leaves its arguments as they were. CONDITIONS: none of ours; the two tables of unicode/utf8 are as the program's text lays them (the card ties them). -/
import Derived.Test.YtbjglcdoekbloaaGreatDoorGRn
import Derived.Test.YtbjglcdoekbloaaGreatDoorGCd
import Derived.Test.YtbjglcdoekbloaaGreatDoorGCdB
set_option linter.unusedSimpArgs false
set_option linter.unusedVariables false
set_option linter.unusedSectionVars false
namespace Go.Proofs.YtbjglcdoekbloaaGreatDoor.headNone
open Go.ChangeShapes Go.WideShapes Go.ChangeAt Go.RowKit

section
variable {H : Type} {en : TypeId × Value → H} {w : World} {base : Nat}
theorem cells_matcher : Tryz.prog.cellsOf 110 = 3 := by kernel_rfl
theorem matcher_shape : ∃ f0 f1 f2 : Field, Tryz.prog.underlying 110 = some (.struct #[f0, f1, f2]) ∧ (f0.offset = 0 ∧ f1.offset = 1 ∧ f2.offset = 2) ∧ f0.type = 3 ∧ f1.type = 9 ∧ f2.type = 9 :=
  ⟨_, _, _, Tryz.underlying110, ⟨rfl, rfl, rfl⟩, rfl, rfl, rfl⟩
theorem open_matchers {fuel : Nat} {cs : List Value} {x : DataW H × List MemPlace} (h : DataW.trod en Tryz.prog w base (fun _ => true) true fuel 46 cs = some x) : ∃ v l, cs = [v] ∧ Slc 3 Mt.enc w (fun _ => True) v l := by
  have h1 := slc_of_open (sz := 3) (enc := Mt.enc) (⟨0, .empty, .empty⟩ : Mt) (fun x => rfl) (by decide) Tryz.underlying46 cells_matcher (fun _ => True) (fun n cs' y hy => by
    obtain ⟨f0, f1, f2, hs, ⟨o0, o1, o2⟩, t0, t1, t2⟩ := matcher_shape
    obtain ⟨xs, k, _, _, hlen, hxl, hf⟩ := DataW.trod_struct hs hy
    rw [cells_matcher] at hlen
    obtain ⟨v0, v1, v2, rfl⟩ := three_of hlen
    obtain ⟨y0, y1, y2, rfl⟩ := three_of hxl
    have g0 := hf 0 f0 rfl
    have g1 := hf 1 f1 rfl
    have g2 := hf 2 f2 rfl
    rw [o0, t0, cells_int] at g0
    rw [o1, t1, cells_str] at g1
    rw [o2, t2, cells_str] at g2
    simp at g0 g1 g2
    obtain ⟨n0, e0, _⟩ := DataW.trod_int Tryz.underlying3 g0
    obtain ⟨s1, e1, _⟩ := DataW.trod_string Tryz.underlying9 g1
    obtain ⟨s2, e2, _⟩ := DataW.trod_string Tryz.underlying9 g2
    simp at e0 e1 e2
    subst e0; subst e1; subst e2
    exact ⟨⟨n0, s1, s2⟩, rfl, trivial⟩) h
  obtain ⟨v, l, h2, h3, _⟩ := h1
  exact ⟨v, l, h2, h3⟩
end
set_option maxRecDepth 100000 in
theorem contract (H : Type) (enc : TypeId × Value → H) (W : World) (args : Array Value) (ds gs : List (DataW H)) (before : List MemPlace)
    (hval : ∀ (j : Nat) t v, Tryz.f4.params[j]? = some t → args[j]? = some v → Value.okWide Tryz.prog W .any 0 t v)
    (hW : DataW.Whole enc Tryz.prog Tryz.f4.params.toList Rows.headNoneSpec.vars false W args.toList ds gs before) (hL : laidMet Tryz.prog theLaid W) :
    Calls Tryz.prog 4 args W fun e W' => ∃ v, e = .returned v ∧ Rows.headNoneSpec.post enc Tryz.prog Tryz.f4 false true false false W args v W' := by
  have hW' := hW
  obtain ⟨p, q, hA0, hV, rfl, hfz, hnd⟩ := hW
  have hA : DataW.TrodAll enc Tryz.prog W 0 (fun _ => true) true Tryz.f4.params.toList args.toList ds p := hA0
  rw [Tryz.params4] at hA hval
  obtain ⟨v0, vs0, d0, ds0, p0, q0, hargs, rfl, rfl, h0, r0⟩ := trodAll_cons hA
  obtain ⟨v1, vs1, d1, ds1, p1, q1, hargs1, rfl, rfl, h1, r1⟩ := trodAll_cons r0
  obtain ⟨rfl, rfl, rfl⟩ := trodAll_nil r1
  obtain rfl : args = #[v0, v1] := by cases args; simp_all
  obtain ⟨rfl, rfl⟩ := trodVars_none hV
  clear hA0
  obtain ⟨hT, h2⟩ := tabs_of hL
  obtain ⟨n0, hn0⟩ := h0
  obtain ⟨n1, hn1⟩ := h1
  obtain ⟨x0, hc0, hs0, hok0⟩ := open_record hn0
  obtain ⟨s1, l1, hc1, hs1⟩ := open_matchers hn1
  obtain ⟨f0, f1, f2, f3, hsh, -⟩ := record_shape
  obtain ⟨cs, rfl, -⟩ := okWide_struct hsh (hval 0 _ v0 rfl rfl)
  obtain rfl : cs = #[.int .i64 x0.r.kind, .int .u32 x0.r.ref, x0.lv, x0.pv] := by
    have e : cs.toList = x0.enc := hc0
    cases cs
    simp only at e
    subst e; rfl
  have e1 := one_cell Tryz.underlying46 (hval 1 _ v1 rfl rfl) hc1
  subst e1
  refine (law_none x0.r x0.lv x0.pv s1 l1 W hs0.1 hs0.2 hok0.2.1 hs1 hT h2).mono fun e W' ⟨he, hb⟩ => ?_
  subst he
  exact ⟨_, rfl, law_post hW' rfl rfl rfl (by rw [Tryz.params4]; decide) hb⟩

theorem laid_met (os : Os) : laidMet Tryz.prog Rows.headNoneRow.laid ((laidWorld os).forCall (fun _ _ => 0) ⟨#[], #[.agg #[.int .i64 0, .int .u32 0, .slice none 0 0, .slice none 0 0], .slice none 0 0], []⟩).memory :=
  laidMet_of_run' 8 (by kernel_rfl) (by kernel_rfl)
theorem reads (os : Os) {H : Type} (enc : TypeId × Value → H) : ∃ places, DataW.whole enc Tryz.prog ((laidWorld os).forCall (fun _ _ => 0) ⟨#[], #[.agg #[.int .i64 0, .int .u32 0, .slice none 0 0, .slice none 0 0], .slice none 0 0], []⟩).memory Tryz.f4.params.toList Rows.headNoneSpec.vars false #[Value.agg #[.int .i64 0, .int .u32 0, .slice none 0 0, .slice none 0 0], Value.slice none 0 0].toList 8 = some ([.agg [.lit (.int .i64 0), .lit (.int .u32 0), .nil, .nil], .nil], [], places) :=
  ⟨[], by kernel_rfl⟩

set_option maxRecDepth 100000 in
theorem lifted (os : Os) (started : os.Started) (H : Type) (enc : TypeId × Value → H) (F : Stop.Interp) :
    ReturnsInHanded {} Tryz.checked os 4 .any ((OpenSpec.ofChange Rows.headNoneSpec).preRow enc Tryz.prog Tryz.f4 Rows.headNoneRow.domain false Rows.headNoneRow.laid) (((OpenSpec.ofChange Rows.headNoneSpec).at F).post enc Tryz.prog Tryz.f4 false true false false) := by
  obtain ⟨places, hx⟩ := reads os enc
  refine returnsInHanded_of_row (C := Tryz.checked) (s := OpenSpec.ofChange Rows.headNoneSpec) own started (by kernel_rfl) Tryz.func4
    (witness_row_at (enc := enc) (C := Tryz.checked) false (laidWorld os) #[.agg #[.int .i64 0, .int .u32 0, .slice none 0 0, .slice none 0 0], .slice none 0 0] rfl (by kernel_rfl) (by kernel_rfl) (by kernel_rfl)
      (OpenSpec.preRow_of_cond 8 hx (by kernel_rfl) (fun k hk => by cases hk) (by kernel_rfl) (laid_met os))) ?_
  intro W base args ds gs before hval hW _ _ _ hL _ _
  exact contract H enc W args ds gs before hval hW hL

theorem said : Rows.HeadNoneSaid :=
  OpenClaim.holds_of_cond 4 Tryz.f4 rfl rfl rfl rfl rfl rfl rfl ⟨rfl, rfl, rfl, rfl, rfl⟩ rfl rfl rfl rfl rfl (by kernel_rfl) Tryz.func4 (by kernel_rfl)
    (of_decide_eq_true (by kernel_rfl)) (by unfold Func.isWrapper; first | (rw [if_pos (by decide +kernel)]; kernel_rfl) | (rw [if_neg (by decide +kernel)]; exact ⟨rfl, rfl⟩))
    (fun os started H enc _ F => by rw [OpenClaim.pre_eq_preRow]; exact lifted os started H enc F)

theorem plain (f : FuncId) (fn : Func) (hf : Tryz.pinned.checked.prog.funcNamed "manometer/manometerlaw14.HeadNone" = some f) (hfn : Tryz.pinned.checked.prog.funcs[f]? = some fn) :
    true = Tryz.pinned.checked.prog.looks [] ∧ ∀ (j : Nat) t, fn.params[j]? = some t → Tryz.pinned.checked.prog.wantsStandIn t = false := by
  obtain rfl : f = 4 := Option.some.inj ((show Tryz.prog.funcNamed "manometer/manometerlaw14.HeadNone" = some 4 by kernel_rfl).symm.trans hf) |>.symm
  obtain rfl : fn = Tryz.f4 := (Option.some.inj (Tryz.func4.symm.trans hfn)).symm
  refine ⟨by kernel_rfl, fun j t ht => ?_⟩
  rw [Tryz.params4] at ht
  have hm : t = 45 ∨ t = 46 := by simpa using Array.mem_of_getElem? ht
  rcases hm with rfl | rfl
  · exact (show Tryz.prog.wantsStandIn 45 = false by kernel_rfl)
  · exact (show Tryz.prog.wantsStandIn 46 = false by kernel_rfl)

/-- THE CARD -/
theorem card : Rows.HeadNoneCardSaid :=
  Claim7.holds_tied_plain_at .later [] _ _ _ _ said (fun _ h => by cases h) (by kernel_rfl) (fun _ h => by cases h) headNone_row_tie rfl ⟨rfl, rfl⟩ (by kernel_rfl) rfl plain (by kernel_rfl)
end Go.Proofs.YtbjglcdoekbloaaGreatDoor.headNone
