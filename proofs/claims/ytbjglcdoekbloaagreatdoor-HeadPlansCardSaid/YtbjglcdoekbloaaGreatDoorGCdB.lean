import Derived.Test.YtbjglcdoekbloaaGreatDoorGCd
import Derived.Test.YtbjglcdoekbloaaGreatDoorGOrA
set_option linter.unusedSimpArgs false
set_option linter.unusedVariables false
set_option linter.unusedSectionVars false
/- series and records among the law's arguments, as the row reads them. -/
namespace Go.Proofs.YtbjglcdoekbloaaGreatDoor
open Go.RowKit Go.ChangeShapes Go.WideShapes Go.Deep

section
variable {H : Type} {en : TypeId × Value → H} {w : World} {base : Nat}
theorem three_of {α : Type} {l : List α} (h : l.length = 3) : ∃ a b c, l = [a, b, c] := by
  match l, h with
  | [a, b, c], _ => exact ⟨a, b, c, rfl⟩
theorem cells_point : Tryz.prog.cellsOf 68 = 3 := by kernel_rfl
theorem cells_points : Tryz.prog.cellsOf 54 = 1 := by kernel_rfl
theorem cells_series : Tryz.prog.cellsOf 66 = 3 := by kernel_rfl
theorem cells_entry : Tryz.prog.cellsOf 100 = 4 := by kernel_rfl
theorem cells_entries : Tryz.prog.cellsOf 43 = 1 := by kernel_rfl
theorem cells_record : Tryz.prog.cellsOf 45 = 4 := by kernel_rfl
theorem cells_u32 : Tryz.prog.cellsOf 40 = 1 := by kernel_rfl
theorem point_shape : ∃ f0 f1 f2 : Field, Tryz.prog.underlying 68 = some (.struct #[f0, f1, f2]) ∧ (f0.offset = 0 ∧ f1.offset = 1 ∧ f2.offset = 2) ∧ f0.type = 2 ∧ f1.type = 23 ∧ f2.type = 23 :=
  ⟨_, _, _, Tryz.underlying68, ⟨rfl, rfl, rfl⟩, rfl, rfl, rfl⟩
theorem series_shape : ∃ f0 f1 f2 : Field, Tryz.prog.underlying 66 = some (.struct #[f0, f1, f2]) ∧ (f0.offset = 0 ∧ f1.offset = 1 ∧ f2.offset = 2) ∧ f0.type = 40 ∧ f1.type = 42 ∧ f2.type = 54 :=
  ⟨_, _, _, Tryz.underlying66, ⟨rfl, rfl, rfl⟩, rfl, rfl, rfl⟩
theorem entry_shape : ∃ f0 f1 : Field, Tryz.prog.underlying 100 = some (.struct #[f0, f1]) ∧ (f0.offset = 0 ∧ f1.offset = 1) ∧ f0.type = 40 ∧ f1.type = 68 :=
  ⟨_, _, Tryz.underlying100, ⟨rfl, rfl⟩, rfl, rfl⟩
theorem record_shape : ∃ f0 f1 f2 f3 : Field, Tryz.prog.underlying 45 = some (.struct #[f0, f1, f2, f3]) ∧ (f0.offset = 0 ∧ f1.offset = 1 ∧ f2.offset = 2 ∧ f3.offset = 3) ∧ f0.type = 3 ∧ f1.type = 40 ∧ f2.type = 42 ∧ f3.type = 43 :=
  ⟨_, _, _, _, Tryz.underlying45, ⟨rfl, rfl, rfl, rfl⟩, rfl, rfl, rfl, rfl⟩
theorem open_point {fuel : Nat} {cs : List Value} {x : DataW H × List MemPlace} (h : DataW.trod en Tryz.prog w base (fun _ => true) true fuel 68 cs = some x) : ∃ p : Pt, cs = p.enc := by
  obtain ⟨f0, f1, f2, hs, ⟨o0, o1, o2⟩, t0, t1, t2⟩ := point_shape
  obtain ⟨xs, k, _, _, hlen, hxl, hf⟩ := DataW.trod_struct hs h
  rw [cells_point] at hlen
  obtain ⟨v0, v1, v2, rfl⟩ := three_of hlen
  obtain ⟨y0, y1, y2, rfl⟩ := three_of hxl
  have g0 := hf 0 f0 rfl
  have g1 := hf 1 f1 rfl
  have g2 := hf 2 f2 rfl
  rw [o0, t0, cells_i64] at g0
  rw [o1, t1, cells_u64] at g1
  rw [o2, t2, cells_u64] at g2
  simp at g0 g1 g2
  obtain ⟨n0, e0, _⟩ := DataW.trod_int Tryz.underlying2 g0
  obtain ⟨n1, e1, _⟩ := DataW.trod_int Tryz.underlying23 g1
  obtain ⟨n2, e2, _⟩ := DataW.trod_int Tryz.underlying23 g2
  simp at e0 e1 e2
  subst e0; subst e1; subst e2
  exact ⟨⟨n0, n1, n2⟩, rfl⟩
theorem open_points {fuel : Nat} {cs : List Value} {x : DataW H × List MemPlace} (h : DataW.trod en Tryz.prog w base (fun _ => true) true fuel 54 cs = some x) : ∃ v l, cs = [v] ∧ SlP w (fun _ => True) v l := by
  have h1 := slc_of_open (sz := 3) (enc := Pt.enc) (⟨0, 0, 0⟩ : Pt) (fun x => rfl) (by decide) Tryz.underlying54 cells_point (fun _ => True) (fun n cs' y hy => by
    obtain ⟨p, e⟩ := open_point hy
    exact ⟨p, e, trivial⟩) h
  obtain ⟨v, l, h2, h3, _⟩ := h1
  exact ⟨v, l, h2, h3⟩
theorem u32_of_wf {n : Int} (h : (Lit.int .u32 n).wf = true) : U32 n := by
  unfold U32
  simp [Lit.wf, IntKind.min, IntKind.max, IntKind.bits, IntKind.signed] at h
  omega
theorem open_series {fuel : Nat} {cs : List Value} {x : DataW H × List MemPlace} (h : DataW.trod en Tryz.prog w base (fun _ => true) true fuel 22 cs = some x) : ∃ v l, cs = [v] ∧ Slc 3 Sr.enc w (fun _ => True) v l ∧ ∀ x ∈ l, (SlL w (fun _ => True) x.lv x.lab ∧ SlP w (fun _ => True) x.pv x.pts) ∧ SzL x.lab ∧ U32 x.ref := by
  refine slc_of_open (sz := 3) (enc := Sr.enc) (⟨0, .nilIface, [], .nilIface, []⟩ : Sr) (fun x => rfl) (by decide) Tryz.underlying22 cells_series (fun x => (SlL w (fun _ => True) x.lv x.lab ∧ SlP w (fun _ => True) x.pv x.pts) ∧ SzL x.lab ∧ U32 x.ref) ?_ h
  intro n cs' y hy
  obtain ⟨f0, f1, f2, hs, ⟨o0, o1, o2⟩, t0, t1, t2⟩ := series_shape
  obtain ⟨xs, k, _, _, hlen, hxl, hf⟩ := DataW.trod_struct hs hy
  rw [cells_series] at hlen
  obtain ⟨v0, v1, v2, rfl⟩ := three_of hlen
  obtain ⟨y0, y1, y2, rfl⟩ := three_of hxl
  have g0 := hf 0 f0 rfl
  have g1 := hf 1 f1 rfl
  have g2 := hf 2 f2 rfl
  rw [o0, t0, cells_u32] at g0
  rw [o1, t1, cells_lbls] at g1
  rw [o2, t2, cells_points] at g2
  simp at g0 g1 g2
  obtain ⟨n0, e0, _, hwf⟩ := DataW.trod_int Tryz.underlying40 g0
  obtain ⟨v, lab, e1, hv, hz⟩ := open_lbls g1
  obtain ⟨v', pts, e2, hp⟩ := open_points g2
  simp at e0 e1 e2
  subst e0; subst e1; subst e2
  exact ⟨⟨n0, v1, lab, v2, pts⟩, rfl, ⟨hv, hp⟩, hz, u32_of_wf hwf⟩
theorem open_entries {fuel : Nat} {cs : List Value} {x : DataW H × List MemPlace} (h : DataW.trod en Tryz.prog w base (fun _ => true) true fuel 43 cs = some x) : ∃ v l, cs = [v] ∧ SlE w (fun _ => True) v l ∧ ∀ x ∈ l, U32 x.ref := by
  refine slc_of_open (sz := 4) (enc := En.enc) (⟨0, ⟨0, 0, 0⟩⟩ : En) (fun x => rfl) (by decide) Tryz.underlying43 cells_entry (fun x => U32 x.ref) ?_ h
  intro n cs' y hy
  obtain ⟨f0, f1, hs, ⟨o0, o1⟩, t0, t1⟩ := entry_shape
  obtain ⟨xs, k, _, _, hlen, hxl, hf⟩ := DataW.trod_struct hs hy
  rw [cells_entry] at hlen
  obtain ⟨v0, v1, v2, v3, rfl⟩ := four_of hlen
  obtain ⟨y0, y1, rfl⟩ := two_of hxl
  have g0 := hf 0 f0 rfl
  have g1 := hf 1 f1 rfl
  rw [o0, t0, cells_u32] at g0
  rw [o1, t1, cells_point] at g1
  simp at g0 g1
  obtain ⟨n0, e0, _, hwf⟩ := DataW.trod_int Tryz.underlying40 g0
  obtain ⟨p, e1⟩ := open_point g1
  simp [Pt.enc] at e0 e1
  subst e0
  obtain ⟨rfl, rfl, rfl⟩ := e1
  exact ⟨⟨n0, p⟩, rfl, u32_of_wf hwf⟩
theorem open_record {fuel : Nat} {cs : List Value} {x : DataW H × List MemPlace} (h : DataW.trod en Tryz.prog w base (fun _ => true) true fuel 45 cs = some x) : ∃ r : RecV, cs = r.enc ∧ (SlL w (fun _ => True) r.lv r.r.lab ∧ SlE w (fun _ => True) r.pv r.r.pts) ∧ RecFit r.r := by
  obtain ⟨f0, f1, f2, f3, hs, ⟨o0, o1, o2, o3⟩, t0, t1, t2, t3⟩ := record_shape
  obtain ⟨xs, k, _, _, hlen, hxl, hf⟩ := DataW.trod_struct hs h
  rw [cells_record] at hlen
  obtain ⟨v0, v1, v2, v3, rfl⟩ := four_of hlen
  obtain ⟨y0, y1, y2, y3, rfl⟩ := four_of hxl
  have g0 := hf 0 f0 rfl
  have g1 := hf 1 f1 rfl
  have g2 := hf 2 f2 rfl
  have g3 := hf 3 f3 rfl
  rw [o0, t0, cells_int] at g0
  rw [o1, t1, cells_u32] at g1
  rw [o2, t2, cells_lbls] at g2
  rw [o3, t3, cells_entries] at g3
  simp at g0 g1 g2 g3
  obtain ⟨n0, e0, _⟩ := DataW.trod_int Tryz.underlying3 g0
  obtain ⟨n1, e1, _, hwf⟩ := DataW.trod_int Tryz.underlying40 g1
  obtain ⟨v, lab, e2, hv, hz⟩ := open_lbls g2
  obtain ⟨v', es, e3, he, hue⟩ := open_entries g3
  simp at e0 e1 e2 e3
  subst e0; subst e1; subst e2; subst e3
  exact ⟨⟨⟨n0, n1, lab, es⟩, v2, v3⟩, rfl, ⟨hv, he⟩, u32_of_wf hwf, hz, hue⟩
theorem open_records {fuel : Nat} {cs : List Value} {x : DataW H × List MemPlace} (h : DataW.trod en Tryz.prog w base (fun _ => true) true fuel 32 cs = some x) : ∃ v l, cs = [v] ∧ Slc 4 RecV.enc w (fun _ => True) v l ∧ ∀ x ∈ l, (SlL w (fun _ => True) x.lv x.r.lab ∧ SlE w (fun _ => True) x.pv x.r.pts) ∧ RecFit x.r := by
  refine slc_of_open (sz := 4) (enc := RecV.enc) (⟨⟨0, 0, [], []⟩, .nilIface, .nilIface⟩ : RecV) (fun x => rfl) (by decide) Tryz.underlying32 cells_record (fun x => (SlL w (fun _ => True) x.lv x.r.lab ∧ SlE w (fun _ => True) x.pv x.r.pts) ∧ RecFit x.r) ?_ h
  intro n cs' y hy
  exact open_record hy
end
end Go.Proofs.YtbjglcdoekbloaaGreatDoor
