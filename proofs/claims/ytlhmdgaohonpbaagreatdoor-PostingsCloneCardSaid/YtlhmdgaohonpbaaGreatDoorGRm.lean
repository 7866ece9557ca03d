import Derived.Test.YtlhmdgaohonpbaaGreatDoorGRxG
set_option linter.unusedSimpArgs false
set_option linter.unusedVariables false
set_option linter.unusedSectionVars false
namespace Go.Proofs.YtlhmdgaohonpbaaGreatDoor
open Go.RowKit Go.Proofs.YtlhmdgaohonpbaaGreatDoor.MapRaw Go.ChangeMaps
def rexE (v : ByteArray) : Int := match parseF v with | .ok _ _ => 0 | .bad _ n => n
def checkM (m : Mt) : Int := if m.kind < 1 ∨ 4 < m.kind then 70 else if namedF m.n = false then 50 else if valuedF m.v = false then 51 else if m.kind < 3 then 0 else rexE m.v
def SzM (m : Mt) : Prop := m.n.size ≤ maxLen ∧ m.v.size ≤ maxLen
set_option maxRecDepth 100000 in
set_option maxHeartbeats 2000000 in
theorem match_check (m : Mt) (w : World) (hz : SzM m) (hT : Tabs w) (h2 : 2 ≤ w.heap.size) :
  Calls Tryz.prog 111 #[.agg #[.int .i64 m.kind, .string m.n, .string m.v]] w fun e w' => e = .returned (.int .i64 (checkM m)) ∧ Below w.heap.size w w' := by
 obtain ⟨kind, mn, mv⟩ := m
 have HNm := Lib.hid fun (W : World) => labels_named mn W hz.1
 have HVl := Lib.hid fun (W : World) (hW : Below w.heap.size w W) => labels_valued mv W hz.2 (hT.below hW h2)
 have HPr := Lib.hid fun (W : World) (hW : Below w.heap.size w W) => rex_parse mv W (hT.below hW h2) (Nat.le_trans h2 hW.size)
 have HCk : Hid (checkM ⟨kind, mn, mv⟩ = if kind < 1 ∨ 4 < kind then 70 else if namedF mn = false then 50 else if valuedF mv = false then 51 else if kind < 3 then 0 else rexE mv) := Lib.hid rfl
 generalize checkM ⟨kind, mn, mv⟩ = res at *
 have HB0 : Hid (Below w.heap.size w (w.alloc (.cells #[.int .i64 kind, .string mn, .string mv] 68))) := Lib.hid (balloc (Below.refl _ _) _)
 have x1 : (w.alloc (.cells #[.int .i64 kind, .string mn, .string mv] 68)).cell? ⟨w.heap.size, 1, none⟩ = some (.string mn) := by simp
 have x2 : (w.alloc (.cells #[.int .i64 kind, .string mn, .string mv] 68)).cell? ⟨w.heap.size, 2, none⟩ = some (.string mv) := by simp
 have x0 : (w.alloc (.cells #[.int .i64 kind, .string mn, .string mv] 68)).cell? ⟨w.heap.size, 0, none⟩ = some (.int .i64 kind) := by simp
 clear hz hT
 by_cases h1 : kind < 1
 ·have e1 : decide (kind < 1) = true := decide_eq_true h1
  have hr : res = 70 := by rw [HCk.out, if_pos (.inl h1)]
  have HR := Lib.hid hr
  clear h1 hr x0 x1 x2
  go_enter Tryz.func111, Tryz.ntmps111
  go_wp2_with fail
  go_ret
  exact ⟨by rw [HR.out]; rfl, HB0.out⟩
 ·have e1 : decide (kind < 1) = false := decide_eq_false h1
  by_cases h4 : 4 < kind
  ·have e4 : decide (kind > 4) = true := decide_eq_true h4
   have e4' : decide (4 < kind) = true := decide_eq_true h4
   have hr : res = 70 := by rw [HCk.out, if_pos (.inr h4)]
   have HR := Lib.hid hr
   clear h1 h4 hr x0 x1 x2
   go_enter Tryz.func111, Tryz.ntmps111
   go_wp2_with fail
   go_ret
   exact ⟨by rw [HR.out]; rfl, HB0.out⟩
  ·have e4 : decide (kind > 4) = false := decide_eq_false h4
   have e4' : decide (4 < kind) = false := decide_eq_false h4
   have hk := HCk.out
   rw [if_neg (by omega)] at hk
   cases hn : namedF mn with
   | false =>
    rw [hn, if_pos rfl] at hk
    rw [hn] at HNm
    have HR := Lib.hid hk
    clear h1 h4 hk hn HCk
    go_enter Tryz.func111, Tryz.ntmps111
    go_wp2_with fail
    refine (HNm.out _).mono ?_
    rintro e w1 ⟨rfl, hb1⟩
    have HB1 := Lib.hid (bthen HB0.out hb1)
    clear hb1
    go_wp2_with fail
    go_ret
    exact ⟨by rw [HR.out]; rfl, HB1.out⟩
   | true =>
    rw [hn, if_neg (by decide)] at hk
    rw [hn] at HNm
    cases hv : valuedF mv with
    | false =>
     rw [hv, if_pos rfl] at hk
     rw [hv] at HVl
     have HR := Lib.hid hk
     clear h1 h4 hk hn hv HCk
     go_enter Tryz.func111, Tryz.ntmps111
     go_wp2_with fail
     generalize w.alloc (.cells #[.int .i64 kind, .string mn, .string mv] 68) = w0 at *
     refine (HNm.out _).mono ?_
     rintro e w1 ⟨rfl, hb1⟩
     have HB1 := Lib.hid (bthen HB0.out hb1)
     have y2 := later hb1 x2
     clear hb1
     go_wp2_with fail
     refine (HVl.out _ HB1.out).mono ?_
     rintro e w2 ⟨rfl, hb2⟩
     have HB2 := Lib.hid (bthen HB1.out hb2)
     clear hb2
     go_wp2_with fail
     go_ret
     exact ⟨by rw [HR.out]; rfl, HB2.out⟩
    | true =>
     rw [hv, if_neg (by decide)] at hk
     rw [hv] at HVl
     by_cases h3 : kind < 3
     ·have e3 : decide (kind < 3) = true := decide_eq_true h3
      rw [if_pos h3] at hk
      have HR := Lib.hid hk
      clear h1 h4 hk hn hv HCk h3
      go_enter Tryz.func111, Tryz.ntmps111
      go_wp2_with fail
      generalize w.alloc (.cells #[.int .i64 kind, .string mn, .string mv] 68) = w0 at *
      refine (HNm.out _).mono ?_
      rintro e w1 ⟨rfl, hb1⟩
      have HB1 := Lib.hid (bthen HB0.out hb1)
      have y2 := later hb1 x2
      have y0 := later hb1 x0
      clear hb1
      go_wp2_with fail
      refine (HVl.out _ HB1.out).mono ?_
      rintro e w2 ⟨rfl, hb2⟩
      have HB2 := Lib.hid (bthen HB1.out hb2)
      have z0 := later hb2 y0
      clear hb2
      go_wp2_with fail
      go_ret
      exact ⟨by rw [HR.out]; rfl, HB2.out⟩
     ·have e3 : decide (kind < 3) = false := decide_eq_false h3
      rw [if_neg h3] at hk
      have HR := Lib.hid hk
      clear h1 h4 hk hn hv HCk h3
      go_enter Tryz.func111, Tryz.ntmps111
      go_wp2_with fail
      generalize w.alloc (.cells #[.int .i64 kind, .string mn, .string mv] 68) = w0 at *
      refine (HNm.out _).mono ?_
      rintro e w1 ⟨rfl, hb1⟩
      have HB1 := Lib.hid (bthen HB0.out hb1)
      have y2 := later hb1 x2
      have y0 := later hb1 x0
      clear hb1
      go_wp2_with fail
      refine (HVl.out _ HB1.out).mono ?_
      rintro e w2 ⟨rfl, hb2⟩
      have HB2 := Lib.hid (bthen HB1.out hb2)
      have z0 := later hb2 y0
      have z2 := later hb2 y2
      clear hb2
      go_wp2_with fail
      refine (HPr.out _ HB2.out).mono ?_
      rintro e w3 hpost
      cases hpf : parseF mv with
      | bad a n =>
       rw [hpf] at hpost
       obtain ⟨rfl, hb3⟩ := hpost
       have hrn : res = n := by rw [HR.out]; unfold rexE; rw [hpf]
       have HRn := Lib.hid hrn
       have HB3 := Lib.hid (bthen HB2.out hb3)
       clear hpf hb3 hrn
       go_wp2_with fail
       go_ret
       exact ⟨by rw [HRn.out]; rfl, HB3.out⟩
      | ok p r =>
       rw [hpf] at hpost
       obtain ⟨xb, tb, rfl, -, -, -, hb3⟩ := hpost
       have hrn : res = 0 := by rw [HR.out]; unfold rexE; rw [hpf]
       have HRn := Lib.hid hrn
       have HB3 := Lib.hid (bthen HB2.out hb3)
       clear hpf hb3 hrn
       go_wp2_with fail
       go_ret
       exact ⟨by rw [HRn.out]; rfl, HB3.out⟩
end Go.Proofs.YtlhmdgaohonpbaaGreatDoor

namespace Go.Proofs.YtlhmdgaohonpbaaGreatDoor
open Go.RowKit Go.Proofs.YtlhmdgaohonpbaaGreatDoor.MapRaw Go.ChangeMaps
def FormOk (w : World) (D : Nat → Prop) (m : Mt) (fp : Value) : Prop :=
 if m.kind < 3 then fp = .pointer none else match parseF m.v with
  | .ok p _ => ∃ xb tb t sz, fp = .pointer (some ⟨xb, 0, none⟩) ∧ D xb ∧ w.heap[xb]? = some (.cells #[.string t, .pointer (some ⟨tb, 0, none⟩), .int .i64 sz] 199 (0, 0)) ∧ PartAt w D 64 tb p
  | .bad _ _ => fp = .pointer none
theorem FormOk.move {w w' : World} {D D' : Nat → Prop} {m : Mt} {fp : Value} (h : FormOk w D m fp) (hs : w.heap.size ≤ w'.heap.size) (hb : ∀ k, k < w.heap.size → D k → w'.heap[k]? = w.heap[k]?) (hD : ∀ k, k < w.heap.size → D k → D' k) : FormOk w' D' m fp := by
 unfold FormOk at *
 split
 ·next h3 => rw [if_pos h3] at h; exact h
 ·next h3 =>
  rw [if_neg h3] at h
  cases hp : parseF m.v with
  | bad a n => rw [hp] at h; exact h
  | ok p r =>
   rw [hp] at h
   obtain ⟨xb, tb, t, sz, e, hd, hx, hpa⟩ := h
   have hlt : xb < w.heap.size := (Array.getElem?_eq_some_iff.1 hx).1
   exact ⟨xb, tb, t, sz, e, hD _ hlt hd, (hb _ hlt hd).trans hx, PartAt.move hs hb hD _ _ _ hpa⟩
theorem FormOk.below {w w' : World} {D : Nat → Prop} {m : Mt} {fp : Value} (h : FormOk w D m fp) (hb : Below w.heap.size w w') : FormOk w' D m fp := h.move hb.size (fun k hk _ => hb.block k hk) (fun _ _ h => h)
theorem form_shape {w : World} {D : Nat → Prop} {m : Mt} {fp : Value} (h : FormOk w D m fp) : ∃ a, fp = .pointer a := by
 unfold FormOk at h
 split at h
 ·exact ⟨_, h⟩
 ·split at h
  ·obtain ⟨xb, tb, t, sz, e, -⟩ := h
   exact ⟨_, e⟩
  ·exact ⟨_, h⟩
def rexM (m : Mt) (v : ByteArray) : Bool := match parseF m.v with | .ok p _ => matchF p v | .bad _ _ => false
def passF (m : Mt) (v : ByteArray) : Bool := if m.kind = 1 then v.toList == m.v.toList else if m.kind = 2 then v.toList != m.v.toList else if m.kind = 3 then rexM m v else if m.kind = 4 then !rexM m v else false
set_option maxRecDepth 100000 in
set_option maxHeartbeats 1000000 in
theorem match_nil (s : ByteArray) (w : World) : Calls Tryz.prog 113 #[.pointer none, .string s] w fun e w' => e = .returned (.bool false) ∧ Below w.heap.size w w' := by
 go_enter Tryz.func113, Tryz.ntmps113
 go_wp2
 go_ret
 exact ⟨rfl, Below.refl _ _⟩
theorem form_match {w : World} {D : Nat → Prop} {m : Mt} {fp : Value} (h : FormOk w D m fp) (h3 : ¬ m.kind < 3) (s : ByteArray) (hs : s.size ≤ 1000000) : Calls Tryz.prog 113 #[fp, .string s] w fun e w' => e = .returned (.bool (rexM m s)) ∧ Below w.heap.size w w' := by
 unfold FormOk at h
 rw [if_neg h3] at h
 unfold rexM
 cases hp : parseF m.v with
 | bad a n => rw [hp] at h; rw [h]; exact match_nil s w
 | ok p r =>
  rw [hp] at h
  obtain ⟨xb, tb, t, sz, rfl, hd, hx, hpa⟩ := h
  exact rex_match s hx hpa hs
set_option maxRecDepth 100000 in
set_option maxHeartbeats 2000000 in
theorem match_passes {D : Nat → Prop} (m : Mt) (fp : Value) (s : ByteArray) (w : World) (hf : FormOk w D m fp) (hs : s.size ≤ 1000000) :
  Calls Tryz.prog 89 #[.agg #[.int .i64 m.kind, .string m.n, .string m.v, fp], .string s] w fun e w' => e = .returned (.bool (passF m s)) ∧ Below w.heap.size w w' := by
 have HFm := Lib.hid fun (W : World) (hW : Below w.heap.size w W) (h3 : ¬ m.kind < 3) => form_match (hf.below hW) h3 s hs
 obtain ⟨ap, rfl⟩ := form_shape hf
 have HPs : Hid (passF m s = if m.kind = 1 then s.toList == m.v.toList else if m.kind = 2 then s.toList != m.v.toList else if m.kind = 3 then rexM m s else if m.kind = 4 then !rexM m s else false) := Lib.hid rfl
 generalize passF m s = res at *
 generalize rexM m s = rm at *
 obtain ⟨kind, mn, mv⟩ := m
 simp only at *
 have HB0 : Hid (Below w.heap.size w (w.alloc (.cells #[.int .i64 kind, .string mn, .string mv, .pointer ap] 134))) := Lib.hid (balloc (Below.refl _ _) _)
 clear hf
 by_cases h1 : kind = 1
 ·have e1 : (kind == 1) = true := by simpa using h1
  have HR : Hid (res = (s.toList == mv.toList)) := Lib.hid (by rw [HPs.out, if_pos h1])
  clear h1
  go_enter Tryz.func89, Tryz.ntmps89
  go_wp2
  go_ret
  exact ⟨ret_bool HR.out.symm, HB0.out⟩
 ·have e1 : (kind == 1) = false := by simpa using h1
  by_cases h2 : kind = 2
  ·have e2 : (kind == 2) = true := by simpa using h2
   have HR : Hid (res = (s.toList != mv.toList)) := Lib.hid (by rw [HPs.out, if_neg h1, if_pos h2])
   clear h1 h2
   go_enter Tryz.func89, Tryz.ntmps89
   go_wp2
   go_ret
   exact ⟨ret_bool HR.out.symm, HB0.out⟩
  ·have e2 : (kind == 2) = false := by simpa using h2
   by_cases h3 : kind = 3
   ·have e3 : (kind == 3) = true := by simpa using h3
    have HR : Hid (res = rm) := Lib.hid (by rw [HPs.out, if_neg h1, if_neg h2, if_pos h3])
    have HK : Hid (¬ kind < 3) := Lib.hid (by omega)
    clear h1 h2 h3
    go_enter Tryz.func89, Tryz.ntmps89
    go_wp2_with fail
    refine (HFm.out _ HB0.out HK.out).mono ?_
    rintro e w1 ⟨rfl, hb1⟩
    have HB1 := Lib.hid (bthen HB0.out hb1)
    clear hb1
    go_wp2_with fail
    go_ret
    exact ⟨ret_bool HR.out.symm, HB1.out⟩
   ·have e3 : (kind == 3) = false := by simpa using h3
    by_cases h4 : kind = 4
    ·have e4 : (kind == 4) = true := by simpa using h4
     have HR : Hid (res = !rm) := Lib.hid (by rw [HPs.out, if_neg h1, if_neg h2, if_neg h3, if_pos h4])
     have HK : Hid (¬ kind < 3) := Lib.hid (by omega)
     clear h1 h2 h3 h4
     go_enter Tryz.func89, Tryz.ntmps89
     go_wp2_with fail
     refine (HFm.out _ HB0.out HK.out).mono ?_
     rintro e w1 ⟨rfl, hb1⟩
     have HB1 := Lib.hid (bthen HB0.out hb1)
     clear hb1
     go_wp2_with fail
     go_ret
     exact ⟨ret_bool HR.out.symm, HB1.out⟩
    ·have e4 : (kind == 4) = false := by simpa using h4
     have HR : Hid (res = false) := Lib.hid (by rw [HPs.out, if_neg h1, if_neg h2, if_neg h3, if_neg h4])
     clear h1 h2 h3 h4
     go_enter Tryz.func89, Tryz.ntmps89
     go_wp2
     go_ret
     exact ⟨ret_bool HR.out.symm, HB0.out⟩
theorem set4 {w : World} {b : Nat} {T : TypeId} {a0 a1 a2 a3 : Value} (x0 x1 x2 x3 : Value) (h : w.heap[b]? = some (.cells #[a0, a1, a2, a3] T (0, 0))) : ((((w.setCell ⟨b, 0, none⟩ x0).setCell ⟨b, 1, none⟩ x1).setCell ⟨b, 2, none⟩ x2).setCell ⟨b, 3, none⟩ x3).heap[b]? = some (.cells #[x0, x1, x2, x3] T (0, 0)) :=
 setCell_blk (i := 3) x3 (setCell_blk (i := 2) x2 (setCell_blk (i := 1) x1 (setCell_blk (i := 0) x0 h)))
theorem below4 {B : Nat} {w W : World} (h : Below B w W) {b : Nat} (hb : B ≤ b) (x0 x1 x2 x3 : Value) : Below B w ((((W.setCell ⟨b, 0, none⟩ x0).setCell ⟨b, 1, none⟩ x1).setCell ⟨b, 2, none⟩ x2).setCell ⟨b, 3, none⟩ x3) := below_cell (below_cell (below_cell (below_cell h hb _ _) hb _ _) hb _ _) hb _ _
def AskPost (w : World) (m : Mt) (e : Ending) (w' : World) : Prop :=
 (checkM m = 0 ∧ ∃ fp, e = .returned (.tuple #[.agg #[.int .i64 m.kind, .string m.n, .string m.v, fp], .int .i64 0]) ∧ FormOk w' (fun k => w.heap.size ≤ k) m fp ∧ Below w.heap.size w w') ∨ (checkM m ≠ 0 ∧ e = .returned (.tuple #[.agg #[.int .i64 0, .string ⟨#[]⟩, .string ⟨#[]⟩, .pointer none], .int .i64 (checkM m)]) ∧ Below w.heap.size w w')
set_option maxRecDepth 100000 in
set_option maxHeartbeats 2000000 in
theorem match_ask (m : Mt) (w : World) (hz : SzM m) (hT : Tabs w) (h2 : 2 ≤ w.heap.size) :
  Calls Tryz.prog 88 #[.agg #[.int .i64 m.kind, .string m.n, .string m.v]] w (AskPost w m) := by
 have HCk := Lib.hid fun (W : World) (hW : Below w.heap.size w W) => match_check m W hz (hT.below hW h2) (Nat.le_trans h2 hW.size)
 have HPr := Lib.hid fun (W : World) (hW : Below w.heap.size w W) => rex_parse m.v W (hT.below hW h2) (Nat.le_trans h2 hW.size)
 obtain ⟨kind, mn, mv⟩ := m
 simp only at *
 obtain ⟨W0, hW0⟩ : ∃ W0, W0 = (w.alloc (.cells #[.int .i64 kind, .string mn, .string mv] 68)).alloc (.cells #[.int .i64 0, .string ⟨#[]⟩, .string ⟨#[]⟩, .pointer none] 134) := ⟨_, rfl⟩
 have hb0 : Below w.heap.size w W0 := by rw [hW0]; exact balloc (balloc (Below.refl _ _) _) _
 have hm : W0.heap[w.heap.size]? = some (.cells #[.int .i64 kind, .string mn, .string mv] 68 (0, 0)) := by rw [hW0]; exact blk_below (alloc_at w _ rfl) (balloc (Below.refl _ _) _)
 have hr : W0.heap[w.heap.size + 1]? = some (.cells #[.int .i64 0, .string ⟨#[]⟩, .string ⟨#[]⟩, .pointer none] 134 (0, 0)) := by rw [hW0]; exact alloc_at (w.alloc (.cells #[.int .i64 kind, .string mn, .string mv] 68)) _ (by simp)
 have HB0 := Lib.hid hb0
 have HM0 := Lib.hid hm
 have HR0 := Lib.hid hr
 clear hz hT hb0 hm hr
 go_enter Tryz.func88, Tryz.ntmps88
 go_wp2_with fail
 rw [← hW0]
 clear hW0
 refine (HCk.out W0 HB0.out).mono ?_
 rintro e w1 ⟨rfl, hb1⟩
 have HB1 := Lib.hid (bthen HB0.out hb1)
 have HM1 := Lib.hid (blk_below HM0.out hb1)
 have HR1 := Lib.hid (blk_below HR0.out hb1)
 clear hb1
 have m0 := blk_cell HM1.out 0
 have m1 := blk_cell HM1.out 1
 have m2 := blk_cell HM1.out 2
 have r0 := blk_cell HR1.out 0
 have r1 := blk_cell HR1.out 1
 have r2 := blk_cell HR1.out 2
 have r3 := blk_cell HR1.out 3
 simp at m0 m1 m2 r0 r1 r2 r3
 have f0 : w1.frozen? ⟨w.heap.size + 1, 0, none⟩ = false := free_blk (i := 0) HR1.out
 have f1 : w1.frozen? ⟨w.heap.size + 1, 1, none⟩ = false := free_blk (i := 1) HR1.out
 have f2 : w1.frozen? ⟨w.heap.size + 1, 2, none⟩ = false := free_blk (i := 2) HR1.out
 have f3 : w1.frozen? ⟨w.heap.size + 1, 3, none⟩ = false := free_blk (i := 3) HR1.out
 by_cases hc : checkM ⟨kind, mn, mv⟩ = 0
 ·have ec : (checkM ⟨kind, mn, mv⟩ != 0) = false := by simp [hc]
  have HC := Lib.hid hc
  generalize hce : checkM ⟨kind, mn, mv⟩ = ce at *
  have HCe := Lib.hid hce
  clear hc hce
  have hb2 : Below w1.heap.size w1 (w1.alloc (.cells #[.int .i64 kind, .string mn, .string mv, .pointer none] 134)) := balloc (Below.refl _ _) _
  have HB2 := Lib.hid (bthen HB1.out hb2)
  have HR2 := Lib.hid (blk_below HR1.out hb2)
  have HM2 := Lib.hid (blk_below HM1.out hb2)
  have HA2 := Lib.hid (blk_new w1 (.cells #[.int .i64 kind, .string mn, .string mv, .pointer none] 134))
  have Hlt : Hid (w.heap.size + 1 < w1.heap.size) := Lib.hid (Array.getElem?_eq_some_iff.1 HR1.out).1
  clear r0 r1 r2 r3 f0 f1 f2 f3
  have n0 := blk_cell HM2.out 0
  have n1 := blk_cell HM2.out 1
  have n2 := blk_cell HM2.out 2
  simp at n0 n1 n2
  by_cases h3 : kind < 3
  ·have e3 : decide (kind ≥ 3) = false := decide_eq_false (by omega)
   have e3' : decide (3 ≤ kind) = false := decide_eq_false (by omega)
   have r0 := blk_cell HR2.out 0
   have r1 := blk_cell HR2.out 1
   have r2 := blk_cell HR2.out 2
   have r3 := blk_cell HR2.out 3
   simp at r0 r1 r2 r3
   have f0 : (w1.alloc (.cells #[.int .i64 kind, .string mn, .string mv, .pointer none] 134)).frozen? ⟨w.heap.size + 1, 0, none⟩ = false := free_blk (i := 0) HR2.out
   have f1 : (w1.alloc (.cells #[.int .i64 kind, .string mn, .string mv, .pointer none] 134)).frozen? ⟨w.heap.size + 1, 1, none⟩ = false := free_blk (i := 1) HR2.out
   have f2 : (w1.alloc (.cells #[.int .i64 kind, .string mn, .string mv, .pointer none] 134)).frozen? ⟨w.heap.size + 1, 2, none⟩ = false := free_blk (i := 2) HR2.out
   have f3 : (w1.alloc (.cells #[.int .i64 kind, .string mn, .string mv, .pointer none] 134)).frozen? ⟨w.heap.size + 1, 3, none⟩ = false := free_blk (i := 3) HR2.out
   have g9 := set4 (.int .i64 kind) (.string mn) (.string mv) (.pointer none) HR2.out
   have g0 := blk_cell g9 0
   have g1 := blk_cell g9 1
   have g2 := blk_cell g9 2
   have g3 := blk_cell g9 3
   simp at g0 g1 g2 g3
   have hfin : AskPost w ⟨kind, mn, mv⟩ (.returned (.tuple #[.agg #[.int .i64 kind, .string mn, .string mv, .pointer none], .int .i64 0])) (((((w1.alloc (.cells #[.int .i64 kind, .string mn, .string mv, .pointer none] 134)).setCell ⟨w.heap.size + 1, 0, none⟩ (.int .i64 kind)).setCell ⟨w.heap.size + 1, 1, none⟩ (.string mn)).setCell ⟨w.heap.size + 1, 2, none⟩ (.string mv)).setCell ⟨w.heap.size + 1, 3, none⟩ (.pointer none)) :=
    .inl ⟨by rw [HCe.out]; exact HC.out, _, rfl, by unfold FormOk; rw [if_pos h3], below4 HB2.out (Nat.le_succ _) _ _ _ _⟩
   have HFin := Lib.hid hfin
   clear hfin g9 h3 hb2
   go_wp2_with fail
   refine ⟨rfl, _, ?_, HFin.out⟩
   simp [results, Tryz.results88, go_sem, g0, g1, g2, g3]
  ·have e3 : decide (kind ≥ 3) = true := decide_eq_true (by omega)
   have e3' : decide (3 ≤ kind) = true := decide_eq_true (by omega)
   have H3 := Lib.hid h3
   clear h3 hb2
   go_wp2_with fail
   refine (HPr.out _ HB2.out).mono ?_
   rintro e w4 hpost
   have hb4 : Below (w1.alloc (.cells #[.int .i64 kind, .string mn, .string mv, .pointer none] 134)).heap.size (w1.alloc (.cells #[.int .i64 kind, .string mn, .string mv, .pointer none] 134)) w4 := by
    cases hpf : parseF mv with
    | bad a n => rw [hpf] at hpost; exact hpost.2
    | ok p r => rw [hpf] at hpost; obtain ⟨xb, tb, -, -, -, -, hb⟩ := hpost; exact hb
   have hfo : ∃ ap n1 n2, e = .returned (.tuple #[.pointer ap, n1, n2]) ∧ FormOk w4 (fun k => w1.heap.size < k) ⟨kind, mn, mv⟩ (.pointer ap) := by
    have hk : ¬ (⟨kind, mn, mv⟩ : Mt).kind < 3 := by have := H3.out; show ¬ kind < 3; omega
    cases hpf : parseF mv with
    | bad a n =>
     rw [hpf] at hpost
     obtain ⟨rfl, -⟩ := hpost
     refine ⟨none, _, _, rfl, ?_⟩
     unfold FormOk
     rw [if_neg hk, show parseF (⟨kind, mn, mv⟩ : Mt).v = .bad a n from hpf]
    | ok p r =>
     rw [hpf] at hpost
     obtain ⟨xb, tb, rfl, hge, hx, hpa, -⟩ := hpost
     have hsz : (w1.alloc (.cells #[.int .i64 kind, .string mn, .string mv, .pointer none] 134)).heap.size = w1.heap.size + 1 := by simp
     refine ⟨_, _, _, rfl, ?_⟩
     unfold FormOk
     rw [if_neg hk, show parseF (⟨kind, mn, mv⟩ : Mt).v = .ok p r from hpf]
     exact ⟨xb, tb, _, _, rfl, by omega, hx, PartAt.move (Nat.le_refl _) (fun _ _ _ => rfl) (fun k _ hd => by omega) _ _ _ hpa⟩
   obtain ⟨ap, na, nb, rfl, hfo⟩ := hfo
   clear n0 n1 n2
   have HFo := Lib.hid hfo
   have HB4 := Lib.hid (bthen HB2.out hb4)
   have HR4 := Lib.hid (blk_below HR2.out hb4)
   have HA4 := Lib.hid (blk_below HA2.out hb4)
   have hA5 := setCell_blk (i := 3) (.pointer ap) HA4.out
   have hR5 := (Below.heap_setCell w4 ⟨w1.heap.size, 3, none⟩ (.pointer ap) (w.heap.size + 1) (by have := Hlt.out; show w.heap.size + 1 ≠ w1.heap.size; omega)).trans HR4.out
   have HR5 := Lib.hid hR5
   have u3 := blk_cell HA4.out 3
   have uf3 : w4.frozen? ⟨w1.heap.size, 3, none⟩ = false := free_blk (i := 3) HA4.out
   have u50 := blk_cell hA5 0
   have u51 := blk_cell hA5 1
   have u52 := blk_cell hA5 2
   have u53 := blk_cell hA5 3
   have r0 := blk_cell hR5 0
   have r1 := blk_cell hR5 1
   have r2 := blk_cell hR5 2
   have r3 := blk_cell hR5 3
   simp at u3 u50 u51 u52 u53 r0 r1 r2 r3
   have f0 : (w4.setCell ⟨w1.heap.size, 3, none⟩ (.pointer ap)).frozen? ⟨w.heap.size + 1, 0, none⟩ = false := free_blk (i := 0) hR5
   have f1 : (w4.setCell ⟨w1.heap.size, 3, none⟩ (.pointer ap)).frozen? ⟨w.heap.size + 1, 1, none⟩ = false := free_blk (i := 1) hR5
   have f2 : (w4.setCell ⟨w1.heap.size, 3, none⟩ (.pointer ap)).frozen? ⟨w.heap.size + 1, 2, none⟩ = false := free_blk (i := 2) hR5
   have f3 : (w4.setCell ⟨w1.heap.size, 3, none⟩ (.pointer ap)).frozen? ⟨w.heap.size + 1, 3, none⟩ = false := free_blk (i := 3) hR5
   have g9 := set4 (.int .i64 kind) (.string mn) (.string mv) (.pointer ap) hR5
   have g0 := blk_cell g9 0
   have g1 := blk_cell g9 1
   have g2 := blk_cell g9 2
   have g3 := blk_cell g9 3
   simp at g0 g1 g2 g3
   have hfin : AskPost w ⟨kind, mn, mv⟩ (.returned (.tuple #[.agg #[.int .i64 kind, .string mn, .string mv, .pointer ap], .int .i64 0])) (((((w4.setCell ⟨w1.heap.size, 3, none⟩ (.pointer ap)).setCell ⟨w.heap.size + 1, 0, none⟩ (.int .i64 kind)).setCell ⟨w.heap.size + 1, 1, none⟩ (.string mn)).setCell ⟨w.heap.size + 1, 2, none⟩ (.string mv)).setCell ⟨w.heap.size + 1, 3, none⟩ (.pointer ap)) := by
    have hb9 : Below w.heap.size w (w4.setCell ⟨w1.heap.size, 3, none⟩ (.pointer ap)) := below_cell HB4.out (by have := Hlt.out; omega) _ _
    refine .inl ⟨by rw [HCe.out]; exact HC.out, _, rfl, ?_, below4 hb9 (Nat.le_succ _) _ _ _ _⟩
    have h1 := Hlt.out
    exact HFo.out.move (by simp [World.setCell]) (fun k hk hd => (Below.heap_setCell _ _ _ _ (show k ≠ w.heap.size + 1 by omega)).trans ((Below.heap_setCell _ _ _ _ (show k ≠ w.heap.size + 1 by omega)).trans ((Below.heap_setCell _ _ _ _ (show k ≠ w.heap.size + 1 by omega)).trans ((Below.heap_setCell _ _ _ _ (show k ≠ w.heap.size + 1 by omega)).trans (Below.heap_setCell _ _ _ _ (show k ≠ w1.heap.size by omega)))))) (fun k _ hd => by omega)
   have HFin := Lib.hid hfin
   clear hfin g9 hpost hb4 hA5 hR5 hfo m0 m1 m2
   go_wp2_with fail
   refine ⟨rfl, _, ?_, HFin.out⟩
   simp [results, Tryz.results88, go_sem, g0, g1, g2, g3]
 ·have ec : (checkM ⟨kind, mn, mv⟩ != 0) = true := by simpa using hc
  have HC := Lib.hid hc
  generalize hce : checkM ⟨kind, mn, mv⟩ = ce at *
  have HCe := Lib.hid hce
  have g9 := set4 (.int .i64 0) (.string ⟨#[]⟩) (.string ⟨#[]⟩) (.pointer none) HR1.out
  have g0 := blk_cell g9 0
  have g1 := blk_cell g9 1
  have g2 := blk_cell g9 2
  have g3 := blk_cell g9 3
  simp at g0 g1 g2 g3
  have hfin : AskPost w ⟨kind, mn, mv⟩ (.returned (.tuple #[.agg #[.int .i64 0, .string ⟨#[]⟩, .string ⟨#[]⟩, .pointer none], .int .i64 ce])) ((((w1.setCell ⟨w.heap.size + 1, 0, none⟩ (.int .i64 0)).setCell ⟨w.heap.size + 1, 1, none⟩ (.string ⟨#[]⟩)).setCell ⟨w.heap.size + 1, 2, none⟩ (.string ⟨#[]⟩)).setCell ⟨w.heap.size + 1, 3, none⟩ (.pointer none)) :=
   .inr ⟨by rw [HCe.out]; exact HC.out, by rw [HCe.out], below4 HB1.out (Nat.le_succ _) _ _ _ _⟩
  have HFin := Lib.hid hfin
  clear hc hce hfin g9
  go_wp2_with fail
  refine ⟨rfl, _, ?_, HFin.out⟩
  simp [results, Tryz.results88, go_sem, g0, g1, g2, g3]
end Go.Proofs.YtlhmdgaohonpbaaGreatDoor

namespace Go.Proofs.YtlhmdgaohonpbaaGreatDoor
open Go.RowKit Go.Proofs.YtlhmdgaohonpbaaGreatDoor.MapRaw Go.ChangeMaps
structure Ak where
 m : Mt
 a : Option Addr
def Ak.enc (x : Ak) : List Value := [.int .i64 x.m.kind, .string x.m.n, .string x.m.v, .pointer x.a]
theorem ak_len (x : Ak) : x.enc.length = 4 := rfl
theorem ak_one (x : Ak) : ∀ u ∈ x.enc, u.oneCell' = true := by
 intro u hu
 simp [Ak.enc] at hu
 rcases hu with rfl | rfl | rfl | rfl <;> rfl
theorem info_ak : (Tryz.prog.info? 134).map (fun i => (i.zero, i.size, i.bytes)) = some (some (.agg #[.int .i64 0, .string ⟨#[]⟩, .string ⟨#[]⟩, .pointer none]), 4, 48) := by kernel_rfl
def errM : List Mt → Int
 | [] => 0
 | m :: l => if checkM m ≠ 0 then checkM m else errM l
def strictF (l : List Mt) : Bool := l.any fun m => !passF m ⟨#[]⟩
def readyE (l : List Mt) : Int := if 16 < l.length then 3 else if errM l ≠ 0 then errM l else if strictF l = true then 0 else 71
structure AksAt (w : World) (v : Value) (al : List Ak) (W : World) : Prop where
 own : W.ownsRow w.heap.size 134 4 v al.length (al.flatMap Ak.enc)
 forms : ∀ x ∈ al, FormOk W (fun k => w.heap.size ≤ k ∧ v.ownBlock ≠ some k) x.m (.pointer x.a)
 below : Below w.heap.size w W
theorem AksAt.then {w W W' : World} {v : Value} {al : List Ak} (h : AksAt w v al W) (hb : Below W.heap.size W W') : AksAt w v al W' := ⟨own_below h.own hb, fun x hx => (h.forms x hx).below hb, bthen h.below hb⟩
theorem AksAt.push {w W w1 : World} {v v1 : Value} {al : List Ak} {x : Ak} {lo : Nat} (h : AksAt w v al W) (ho : w1.ownsRow w.heap.size 134 4 v1 (al.length + 1) (al.flatMap Ak.enc ++ x.enc)) (hb : Below w.heap.size W w1) (hg : W.grownBy w1 v.ownBlock) (hat : v1.ownBlock = v.ownBlock ∨ v1.ownBlock = some W.heap.size) (hx : FormOk W (fun k => lo ≤ k) x.m (.pointer x.a)) (hlo : w.heap.size ≤ lo) (hv : ∀ k, v.ownBlock = some k → k < lo) : AksAt w v1 (al ++ [x]) w1 := by
 have hnb : ∀ j, j < W.heap.size → v.ownBlock ≠ some j → v1.ownBlock ≠ some j := fun j hj hn => by
  rcases hat with e | e
  ·rw [e]; exact hn
  ·rw [e]; intro e2; injection e2 with e2; omega
 refine ⟨?_, fun y hy => ?_, ⟨hb.os.trans h.below.os, hb.tape.trans h.below.tape, hb.output.trans h.below.output, Nat.le_trans h.below.size hb.size, fun k hk => (hb.block k hk).trans (h.below.block k hk)⟩⟩
 ·rw [List.length_append, List.flatMap_append]; simpa using ho
 ·rcases List.mem_append.1 hy with hy | hy
  ·exact (h.forms y hy).move hb.size (fun k hk hd => hg.block k hk (fun e => hd.2 e.symm)) (fun k hk hd => ⟨hd.1, hnb k hk hd.2⟩)
  ·simp at hy
   subst hy
   have hn : ∀ k, lo ≤ k → v.ownBlock ≠ some k := fun k hk e => by have := hv k e; omega
   exact hx.move hb.size (fun k hk hd => hg.block k hk (fun e => hn k hd e.symm)) (fun k hk hd => ⟨Nat.le_trans hlo hd, hnb k hk (hn k hd)⟩)
theorem err_take (l : List Mt) (k : Nat) (hk : k < l.length) (hok : ∀ x ∈ l.take k, checkM x = 0) : (checkM l[k] ≠ 0 → errM l = checkM l[k]) ∧ (checkM l[k] = 0 → ∀ x ∈ l.take (k + 1), checkM x = 0) := by
 constructor
 ·intro hc
  have h : ∀ (a : List Mt) (b : List Mt), (∀ x ∈ a, checkM x = 0) → errM (a ++ b) = errM b := by
   intro a
   induction a with
   | nil => intro b _; rfl
   | cons x a ih =>
    intro b h
    show errM (x :: (a ++ b)) = _
    rw [errM, if_neg (by simp [h x (List.mem_cons_self ..)]), ih b (fun y hy => h y (List.mem_cons_of_mem _ hy))]
  have e : l = l.take k ++ l[k] :: l.drop (k + 1) := by rw [← List.drop_eq_getElem_cons hk, List.take_append_drop]
  have h2 := h (l.take k) (l[k] :: l.drop (k + 1)) hok
  rw [← e] at h2
  rw [h2, errM, if_pos hc]
 ·intro hc x hx
  rw [List.take_succ_eq_append_getElem hk] at hx
  rcases List.mem_append.1 hx with hx | hx
  ·exact hok x hx
  ·simp at hx; rw [hx]; exact hc
theorem err_zero : ∀ (l : List Mt), (∀ x ∈ l, checkM x = 0) → errM l = 0
 | [], _ => rfl
 | x :: l, h => by rw [errM, if_neg (by simp [h x (List.mem_cons_self ..)])]; exact err_zero l (fun y hy => h y (List.mem_cons_of_mem _ hy))
def ReadyPost (w : World) (l : List Mt) (e : Ending) (w' : World) : Prop :=
 (readyE l = 0 ∧ ∃ v al, e = .returned (.tuple #[v, .int .i64 0]) ∧ al.map Ak.m = l ∧ AksAt w v al w') ∨ (readyE l ≠ 0 ∧ e = .returned (.tuple #[.slice none 0 0, .int .i64 (readyE l)]) ∧ Below w.heap.size w w')
set_option maxRecDepth 100000 in
set_option maxHeartbeats 4000000 in
theorem match_ready {D : Nat → Prop} (v : Value) (l : List Mt) (w : World) (hv : Slc 3 Mt.enc w D v l) (hz : ∀ x ∈ l, SzM x) (hT : Tabs w) (h2 : 2 ≤ w.heap.size) :
  Calls Tryz.prog 71 #[v] w (ReadyPost w l) := by
 obtain ⟨A, c, rfl, p1, p2, -, -, p5⟩ := hv
 have HRd := Lib.hid fun (W : World) (hW : Below w.heap.size w W) => Rd.below p5 hW
 have HAsk := Lib.hid fun (x : Mt) (hx : x ∈ l) (W : World) (hW : Below w.heap.size w W) => match_ask x W (hz x hx) (hT.below hW h2) (Nat.le_trans h2 hW.size)
 have hm9 : l.length ≤ 9223372036854775807 := by simp only [maxLen] at p2; omega
 obtain ⟨m, hm⟩ : ∃ m, m = l.length := ⟨_, rfl⟩
 have Hm := Lib.hid hm
 rw [← hm] at hm9 ⊢
 clear p1 p2 p5 hz hT hm
 by_cases h16 : 16 < m
 ·have e16 : decide ((m : Int) > 16) = true := decide_eq_true (by omega)
  have e16' : decide ((16 : Int) < (m : Int)) = true := decide_eq_true (by omega)
  have HRe : Hid (readyE l = 3) := Lib.hid (by unfold readyE; rw [if_pos (by rw [← Hm.out]; exact h16)])
  clear h16
  go_enter Tryz.func71, Tryz.ntmps71
  go_wp2_with fail
  go_ret2
  exact .inr ⟨by rw [HRe.out]; decide, by rw [HRe.out]; rfl, Below.refl _ _⟩
 ·have e16 : decide ((m : Int) > 16) = false := decide_eq_false (by omega)
  have e16' : decide ((16 : Int) < (m : Int)) = false := decide_eq_false (by omega)
  have H16 : Hid (m ≤ 16) := Lib.hid (by omega)
  have HRe : Hid (readyE l = if errM l ≠ 0 then errM l else if strictF l = true then 0 else 71) := Lib.hid (by unfold readyE; rw [if_neg (by rw [← Hm.out]; exact h16)])
  obtain ⟨i0, hi, hz0, hz1, hz2⟩ := info_parts info_ak
  clear h16
  go_enter Tryz.func71, Tryz.ntmps71
  go_wp2_with (at_make; refine wpList_make_own _ rfl _ _ 111 rfl w.heap.size 134 i0 _ 4 Tryz.underlying111 hi hz0 hz1 .i64 .i64 _ m rfl rfl rfl (by rw [hz2]; have := H16.out; omega) (by have := H16.out; simp only [maxLen]; omega) (Nat.le_refl _) ?_; intro w1 hO hg; have HO := Lib.hid hO; have HB1 := Lib.hid (grown_below hg); clear hO hg)
  have h0 : AksAt w (.slice (some ⟨w.heap.size, 0, none⟩) 0 m) [] w1 := ⟨HO.out, fun x hx => by simp at hx, HB1.out⟩
  have H0 := Lib.hid h0
  have he0 : (⟨#[]⟩ : ByteArray).size ≤ 1000000 := by decide
  have HE0 := Lib.hid he0
  clear h0 he0
  go_loopw [4, 5, 18] (fun ov sv i wr => ∃ (k : Nat) (al : List Ak), k ≤ m ∧ i = .int .i64 k ∧ sv = .bool (strictF (l.take k)) ∧ al.map Ak.m = l.take k ∧ (∀ x ∈ l.take k, checkM x = 0) ∧ AksAt w ov al wr) (fun _ _ i _ => m - (intOf i).toNat)
  case atStart => exact ⟨0, [], Nat.zero_le _, rfl, rfl, rfl, fun x hx => by simp at hx, H0.out⟩
  case round =>
   obtain ⟨k, al, hk, rfl, rfl, hal, hok, hA⟩ := hrel
   have HAr := Lib.hid hA
   have HAl := Lib.hid hal
   have HOk := Lib.hid hok
   obtain ⟨Av, cv, e4⟩ := own_slice hA.own
   subst e4
   have hlen : al.length = k := by
    have h1 := congrArg List.length hal
    rw [List.length_map, List.length_take, ← Hm.out] at h1; omega
   have HLen := Lib.hid hlen
   by_cases hlt : k < m
   ·have hkl : k < l.length := by rw [← Hm.out]; exact hlt
    obtain ⟨b, off, e1, hzc⟩ := (HRd.out wr hA.below) k l[k] (List.getElem?_eq_getElem hkl)
    subst e1
    have z0 := hzc 0 _ rfl
    have z1 := hzc 1 _ rfl
    have z2 := hzc 2 _ rfl
    simp only [Nat.add_zero] at z0 z1 z2
    have hstep := err_take l k hkl hok
    have hasq := fun (W : World) (hW : Below w.heap.size w W) => HAsk.out l[k] (List.getElem_mem hkl) W hW
    have hst : strictF (l.take (k + 1)) = (strictF (l.take k) || !passF l[k] ⟨#[]⟩) := any_take _ l k hkl
    have htk : l.take (k + 1) = l.take k ++ [l[k]] := List.take_succ_eq_append_getElem hkl
    have HStep := Lib.hid hstep
    have HAsq := Lib.hid hasq
    have HSt := Lib.hid hst
    have HTk := Lib.hid htk
    clear hstep hasq hst htk hzc
    generalize l[k] = x at *
    obtain ⟨kind, mn, mv⟩ := x
    simp only at z0 z1 z2
    have hb1 : Below wr.heap.size wr (wr.alloc (.cells #[.int .i64 kind, .string mn, .string mv] 68)) := balloc (Below.refl _ _) _
    have HBw := Lib.hid hb1
    have hcall := HAsq.out (wr.alloc (.cells #[.int .i64 kind, .string mn, .string mv] 68)) (bthen hA.below hb1)
    have HCall := Lib.hid hcall
    clear hcall hb1 hA hal hok hlen hkl
    go_wp2_with fail
    refine HCall.out.mono ?_
    rintro e w2 (⟨hc0, fp, rfl, hfo, hb2⟩ | ⟨hc0, rfl, hb2⟩)
    ·obtain ⟨ap, rfl⟩ := form_shape hfo
     have hbx := bthen HBw.out hb2
     have hsz : (wr.alloc (.cells #[.int .i64 kind, .string mn, .string mv] 68)).heap.size = wr.heap.size + 1 := by simp
     rw [hsz] at hfo
     have hb3 : Below w2.heap.size w2 (w2.alloc (.cells #[.int .i64 kind, .string mn, .string mv, .pointer ap] 134)) := balloc (Below.refl _ _) _
     have hb4 : Below w2.heap.size w2 ((w2.alloc (.cells #[.int .i64 kind, .string mn, .string mv, .pointer ap] 134)).alloc (.cells #[.int .i64 kind, .string mn, .string mv, .pointer ap] 134)) := balloc (balloc (Below.refl _ _) _) _
     have HA4 := Lib.hid (HAr.out.then (bthen hbx hb4))
     have HFo4 := Lib.hid (hfo.below hb4)
     have HBlk := Lib.hid (blk_below (blk_new w2 (.cells #[.int .i64 kind, .string mn, .string mv, .pointer ap] 134)) (balloc (Below.refl _ _) (.cells #[.int .i64 kind, .string mn, .string mv, .pointer ap] 134)))
     have HC0 := Lib.hid hc0
     have HS2 : Hid (wr.heap.size + 1 ≤ w2.heap.size) := Lib.hid (by have := hb2.size; omega)
     have HLit : Hid (((w2.alloc (.cells #[.int .i64 kind, .string mn, .string mv, .pointer ap] 134)).alloc (.cells #[.int .i64 kind, .string mn, .string mv, .pointer ap] 134)).heap[w2.heap.size + 1]? = some (.cells #[.int .i64 kind, .string mn, .string mv, .pointer ap] 134 (0, 0))) := Lib.hid (by have h9 := blk_new (w2.alloc (.cells #[.int .i64 kind, .string mn, .string mv, .pointer ap] 134)) (.cells #[.int .i64 kind, .string mn, .string mv, .pointer ap] 134); simpa using h9)
     have hle4 : w.heap.size ≤ ((w2.alloc (.cells #[.int .i64 kind, .string mn, .string mv, .pointer ap] 134)).alloc (.cells #[.int .i64 kind, .string mn, .string mv, .pointer ap] 134)).heap.size := HA4.out.below.size
     have hln4 : (al.length + 1) * 48 ≤ 140737488355328 := by have := HLen.out; have := H16.out; omega
     clear hfo hbx hsz hb3 hb4 hb2 hc0 z0 z1 z2
     go_wp2_with (at_builtin; refine wpList_app2 (w0 := (w2.alloc (.cells #[.int .i64 kind, .string mn, .string mv, .pointer ap] 134)).alloc (.cells #[.int .i64 kind, .string mn, .string mv, .pointer ap] 134)) w.heap.size rfl _ _ 111 134 _ 4 48 1 (Ak.enc ⟨⟨kind, mn, mv⟩, ap⟩) rfl Tryz.underlying111 info_ak rfl (by decide) (by decide) (.slice Av al.length cv) (.slice (some ⟨w2.heap.size + 1, 0, none⟩) 1 1) al.length (al.flatMap Ak.enc) ?hs ?hxe ?hx HA4.out.own (Below.refl _ _) hle4 hln4 ?_)
     try case hs => rfl
     try case hxe => rfl
     case hx => exact src_block (m := 1) (size := 4) (cs := #[.int .i64 kind, .string mn, .string mv, .pointer ap]) (t := 134) (fr := (0, 0)) HLit.out rfl (fun u hu => ak_one ⟨⟨kind, mn, mv⟩, ap⟩ u hu) 1
     intro v5 w5 hO5 hB5 hg5 hat5
     have hA5 := HA4.out.push (lo := wr.heap.size + 1) hO5 hB5 hg5 (by simpa using hat5) HFo4.out (by have := HAr.out.below.size; omega) (fun j hj => by have := (ownsRow_blk HAr.out.own j hj).2; omega)
     have HA5 := Lib.hid hA5
     have hblk5 := blk_grown HBlk.out hg5 (fun e => by have := (ownsRow_blk HAr.out.own _ e.symm).2; have := HS2.out; omega)
     have y0 := blk_cell hblk5 0
     have y1 := blk_cell hblk5 1
     have y2 := blk_cell hblk5 2
     have y3 := blk_cell hblk5 3
     simp at y0 y1 y2 y3
     have hfm : FormOk w5 (fun j => w.heap.size ≤ j ∧ v5.ownBlock ≠ some j) ⟨kind, mn, mv⟩ (.pointer ap) := hA5.forms ⟨⟨kind, mn, mv⟩, ap⟩ (List.mem_append_right _ (List.mem_singleton.2 rfl))
     have hpass := match_passes ⟨kind, mn, mv⟩ (.pointer ap) ⟨#[]⟩ w5 hfm HE0.out
     have HPass := Lib.hid hpass
     obtain ⟨A5, c5, rfl⟩ := own_slice hO5
     have HAl2 : Hid ((al ++ [(⟨⟨kind, mn, mv⟩, ap⟩ : Ak)]).map Ak.m = l.take (k + 1)) := Lib.hid (by rw [List.map_append, HAl.out, HTk.out]; rfl)
     have HOk2 := Lib.hid (HStep.out.2 HC0.out)
     clear hO5 hB5 hg5 hat5 hA5 hblk5 hfm hpass hle4
     cases hst : strictF (l.take k) with
     | true =>
      have HFin : Hid (Value.bool true = .bool (strictF (l.take (k + 1)))) := Lib.hid (by rw [HSt.out, hst]; rfl)
      clear hst
      go_wp2_with fail
      go_roundw
      case rel => exact ⟨k + 1, _, by omega, by go_num, HFin.out, HAl2.out, HOk2.out, HA5.out⟩
      case measure => simp [intOf] <;> omega
     | false =>
      have HFin : Hid (Value.bool (!passF ⟨kind, mn, mv⟩ ⟨#[]⟩) = .bool (strictF (l.take (k + 1)))) := Lib.hid (by rw [HSt.out, hst]; simp)
      generalize passF ⟨kind, mn, mv⟩ ⟨#[]⟩ = pb at *
      clear hst
      go_wp2_with fail
      refine HPass.out.mono ?_
      rintro e w6 ⟨rfl, hb6⟩
      have HA6 := Lib.hid (HA5.out.then hb6)
      clear hb6
      go_wp2_with fail
      go_roundw
      case rel => exact ⟨k + 1, _, by omega, by go_num, HFin.out, HAl2.out, HOk2.out, HA6.out⟩
      case measure => simp [intOf] <;> omega
    ·have ec : (checkM ⟨kind, mn, mv⟩ != 0) = true := by simpa using hc0
     have HErr : Hid (errM l = checkM ⟨kind, mn, mv⟩) := Lib.hid (HStep.out.1 hc0)
     have HC0 := Lib.hid hc0
     generalize checkM ⟨kind, mn, mv⟩ = ce at *
     have hfin : ReadyPost w l (.returned (.tuple #[.slice none 0 0, .int .i64 ce])) (w2.alloc (.cells #[.int .i64 0, .string ⟨#[]⟩, .string ⟨#[]⟩, .pointer none] 134)) := by
      have hr : readyE l = ce := by rw [HRe.out, HErr.out, if_pos HC0.out]
      exact .inr ⟨by rw [hr]; exact HC0.out, by rw [hr], bthen HAr.out.below (bthen HBw.out (bthen hb2 (balloc (Below.refl _ _) _)))⟩
     have HFin := Lib.hid hfin
     clear hc0 hb2 hfin z0 z1 z2
     go_wp2_with fail
     go_ret2
     exact HFin.out
   ·have hkm : l.take k = l := List.take_of_length_le (by rw [← Hm.out]; omega)
    rw [hkm] at hal hok
    have herr : errM l = 0 := err_zero l hok
    have hre : readyE l = if strictF l = true then 0 else 71 := by rw [HRe.out, if_neg (by simp [herr])]
    have HRe2 := Lib.hid hre
    have HAl3 := Lib.hid hal
    rw [hkm]
    clear hA hal hok hkm herr hre hlen
    cases hst : strictF l with
    | true =>
     have HZ : Hid (readyE l = 0) := Lib.hid (by rw [HRe2.out, if_pos hst])
     clear hst
     go_wp2_with fail
     go_ret2
     exact .inl ⟨HZ.out, _, al, rfl, HAl3.out, HAr.out⟩
    | false =>
     have HZ : Hid (readyE l = 71) := Lib.hid (by rw [HRe2.out, if_neg (by rw [hst]; decide)])
     clear hst
     go_wp2_with fail
     go_ret2
     exact .inr ⟨by rw [HZ.out]; decide, by rw [HZ.out]; rfl, HAr.out.below⟩
end Go.Proofs.YtlhmdgaohonpbaaGreatDoor

namespace Go.Proofs.YtlhmdgaohonpbaaGreatDoor
open Go.RowKit Go.Proofs.YtlhmdgaohonpbaaGreatDoor.MapRaw Go.ChangeMaps
def valL (l : List Lb) (name : ByteArray) : ByteArray := match l.find? (fun x => x.n.toList == name.toList) with | some x => x.v | none => ⟨#[]⟩
theorem val_drop (l : List Lb) (name : ByteArray) (k : Nat) (hk : k < l.length) : valL (l.drop k) name = if (l[k].n.toList == name.toList) = true then l[k].v else valL (l.drop (k + 1)) name := by
 rw [List.drop_eq_getElem_cons hk]
 unfold valL
 rw [List.find?_cons]
 cases (l[k].n.toList == name.toList) <;> rfl
theorem val_size {l : List Lb} {name : ByteArray} {B : Nat} (h : ∀ x ∈ l, x.v.size ≤ B) : (valL l name).size ≤ B := by
 unfold valL
 split
 ·next x hx => exact h x (List.mem_of_find?_eq_some hx)
 ·exact Nat.zero_le _
theorem ret_str {a b : ByteArray} (h : a = b) : Ending.returned (.string a) = Ending.returned (.string b) := by rw [h]
set_option maxRecDepth 100000 in
set_option maxHeartbeats 1000000 in
theorem labels_get {D : Nat → Prop} (v : Value) (l : List Lb) (name : ByteArray) (w : World) (hv : SlL w D v l) :
  Calls Tryz.prog 90 #[v, .string name] w fun e w' => e = .returned (.string (valL l name)) ∧ Below w.heap.size w w' := by
 obtain ⟨A, c, rfl, p1, p2, -, -, p5⟩ := hv
 have HR := Lib.hid p5
 have hm9 : l.length ≤ 9223372036854775807 := by simp only [maxLen] at p2; omega
 have HV0 : Hid (valL (l.drop 0) name = valL l name) := Lib.hid (by rw [List.drop_zero])
 generalize valL l name = res at *
 obtain ⟨m, hm⟩ : ∃ m, m = l.length := ⟨_, rfl⟩
 have Hm := Lib.hid hm
 rw [← hm] at hm9 ⊢
 clear p1 p2 p5 hm
 go_enter Tryz.func90, Tryz.ntmps90
 go_wp2
 go_loopw [9] (fun i wr => ∃ k : Nat, k ≤ m ∧ i = .int .i64 k ∧ valL (l.drop k) name = res ∧ Below w.heap.size w wr) (fun i _ => m - (intOf i).toNat)
 case atStart => exact ⟨0, Nat.zero_le _, rfl, HV0.out, Below.refl _ _⟩
 case round =>
  obtain ⟨k, hk, rfl, hE, hB⟩ := hrel
  have HBr := Lib.hid hB
  by_cases hlt : k < m
  ·have hkl : k < l.length := by rw [← Hm.out]; exact hlt
   obtain ⟨b, off, rfl, z0, z1⟩ := RdL.at_ (Rd.below HR.out hB) hkl
   rw [val_drop l name k hkl] at hE
   generalize l[k] = x at *
   obtain ⟨xn, xv⟩ := x
   simp only at z0 z1 hE
   have HBw := Lib.hid (bthen hB (balloc (Below.refl wr.heap.size wr) (.cells #[.string xn, .string xv] 80)))
   cases he : (xn.toList == name.toList) with
   | true =>
    rw [he, if_pos rfl] at hE
    have HE := Lib.hid hE
    have he2 := he
    clear hE hB
    go_wp2_with fail
    go_ret
    exact ⟨ret_str HE.out, HBw.out⟩
   | false =>
    rw [he, if_neg (by decide)] at hE
    have HE := Lib.hid hE
    clear hE hB
    go_wp2_with fail
    go_roundw
    case rel => exact ⟨k + 1, by omega, by go_num, HE.out, HBw.out⟩
    case measure => simp [intOf] <;> omega
  ·have hkm : l.drop k = [] := List.drop_of_length_le (by rw [← Hm.out]; omega)
   rw [hkm] at hE
   have HE := Lib.hid hE
   clear hE hB hkm
   go_wp2_with fail
   go_ret
   exact ⟨ret_str HE.out, HBr.out⟩
def passL (ml : List Mt) (l : List Lb) : Bool := ml.all fun m => passF m (valL l m.n)
set_option maxRecDepth 100000 in
set_option maxHeartbeats 2000000 in
theorem match_pass {D D1 D2 : Nat → Prop} (v lv : Value) (al : List Ak) (l : List Lb) (w : World) (hv : Slc 4 Ak.enc w D v al) (hf : ∀ x ∈ al, FormOk w D1 x.m (.pointer x.a)) (hl : SlL w D2 lv l) (hz : ∀ x ∈ l, x.v.size ≤ 1000000) :
  Calls Tryz.prog 72 #[v, lv] w fun e w' => e = .returned (.bool (passL (al.map Ak.m) l)) ∧ Below w.heap.size w w' := by
 obtain ⟨A, c, rfl, p1, p2, -, -, p5⟩ := hv
 have HRd := Lib.hid fun (W : World) (hW : Below w.heap.size w W) => Rd.below p5 hW
 have HGet := Lib.hid fun (name : ByteArray) (W : World) (hW : Below w.heap.size w W) => labels_get lv l name W (hl.below hW)
 have HPs := Lib.hid fun (x : Ak) (hx : x ∈ al) (name : ByteArray) (W : World) (hW : Below w.heap.size w W) => match_passes x.m (.pointer x.a) (valL l name) W ((hf x hx).below hW) (val_size hz)
 have hm9 : al.length ≤ 9223372036854775807 := by simp only [maxLen] at p2; omega
 have HAny : Hid (passL (al.map Ak.m) l = !(al.any fun x => !passF x.m (valL l x.m.n))) := Lib.hid (by unfold passL; rw [List.all_map, List.not_any_eq_all_not]; simp [Function.comp_def])
 generalize passL (al.map Ak.m) l = res at *
 obtain ⟨m, hm⟩ : ∃ m, m = al.length := ⟨_, rfl⟩
 have Hm := Lib.hid hm
 rw [← hm] at hm9 ⊢
 obtain ⟨A3, c3, rfl, -⟩ := hl
 generalize l.length = nl at *
 clear p1 p2 p5 hm hf hz
 go_enter Tryz.func72, Tryz.ntmps72
 go_wp2_with fail
 go_loopw [9] (fun i wr => ∃ k : Nat, k ≤ m ∧ i = .int .i64 k ∧ AnyTo (fun x : Ak => !passF x.m (valL l x.m.n)) al k ∧ Below w.heap.size w wr) (fun i _ => m - (intOf i).toNat)
 case atStart => exact ⟨0, Nat.zero_le _, rfl, AnyTo.start _ _, Below.refl _ _⟩
 case round =>
  obtain ⟨k, hk, rfl, hE, hB⟩ := hrel
  have HBr := Lib.hid hB
  by_cases hlt : k < m
  ·have hkl : k < al.length := by rw [← Hm.out]; exact hlt
   obtain ⟨b, off, e1, hzc⟩ := (HRd.out wr hB) k al[k] (List.getElem?_eq_getElem hkl)
   cases e1
   have z0 := hzc 0 _ rfl
   have z1 := hzc 1 _ rfl
   have z2 := hzc 2 _ rfl
   have z3 := hzc 3 _ rfl
   simp only [Nat.add_zero] at z0 z1 z2 z3
   have hRd := hE.round hkl
   have hps := HPs.out al[k] (List.getElem_mem hkl) al[k].m.n
   generalize al[k] = x at *
   obtain ⟨⟨kind, mn, mv⟩, ap⟩ := x
   simp only at z0 z1 z2 z3 hRd hps
   have HPx := Lib.hid hps
   have hgt := HGet.out mn
   have HGx := Lib.hid hgt
   generalize passF ⟨kind, mn, mv⟩ (valL l mn) = pb at *
   generalize valL l mn = vs at *
   have hbw : Below wr.heap.size wr (wr.alloc (.cells #[.int .i64 kind, .string mn, .string mv, .pointer ap] 134)) := balloc (Below.refl _ _) _
   have HBw := Lib.hid (bthen hB hbw)
   have x0 : (wr.alloc (.cells #[.int .i64 kind, .string mn, .string mv, .pointer ap] 134)).cell? ⟨wr.heap.size, 0, none⟩ = some (.int .i64 kind) := by simp
   have x1 : (wr.alloc (.cells #[.int .i64 kind, .string mn, .string mv, .pointer ap] 134)).cell? ⟨wr.heap.size, 1, none⟩ = some (.string mn) := by simp
   have x2 : (wr.alloc (.cells #[.int .i64 kind, .string mn, .string mv, .pointer ap] 134)).cell? ⟨wr.heap.size, 2, none⟩ = some (.string mv) := by simp
   have x3 : (wr.alloc (.cells #[.int .i64 kind, .string mn, .string mv, .pointer ap] 134)).cell? ⟨wr.heap.size, 3, none⟩ = some (.pointer ap) := by simp
   have HRnd := Lib.hid hRd
   clear hE hB hps hgt hzc hRd hbw
   go_upto_region 4 with fail
   generalize wr.alloc (.cells #[.int .i64 kind, .string mn, .string mv, .pointer ap] 134) = W at *
   have y0 : W.drew.cell? ⟨wr.heap.size, 0, none⟩ = some (.int .i64 kind) := x0
   have y1 : W.drew.cell? ⟨wr.heap.size, 1, none⟩ = some (.string mn) := x1
   have y2 : W.drew.cell? ⟨wr.heap.size, 2, none⟩ = some (.string mv) := x2
   have y3 : W.drew.cell? ⟨wr.heap.size, 3, none⟩ = some (.pointer ap) := x3
   clear x0 x1 x2 x3 z0 z1 z2 z3
   go_region_held3 (fun w' => w'.cell? ⟨wr.heap.size, 0, none⟩ = some (.int .i64 kind) ∧ w'.cell? ⟨wr.heap.size, 1, none⟩ = some (.string mn) ∧ w'.cell? ⟨wr.heap.size, 2, none⟩ = some (.string mv) ∧ w'.cell? ⟨wr.heap.size, 3, none⟩ = some (.pointer ap)) (first | exact ⟨y0, y1, y2, y3⟩ | exact ⟨later hb5 y0, later hb5 y1, later hb5 y2, later hb5 y3⟩ | exact ⟨later hb6 (later hb5 y0), later hb6 (later hb5 y1), later hb6 (later hb5 y2), later hb6 (later hb5 y3)⟩)
    (first | (go_at_call 90; refine (HGx.out _ (bthen HBw.out (bdrew (Below.refl _ _)))).mono ?_; rintro e w5 ⟨rfl, hb5⟩) | (go_at_call 89; refine (HPx.out _ (bthen HBw.out (bthen (bdrew (Below.refl _ _)) hb5))).mono ?_; rintro e w6 ⟨rfl, hb6⟩))
   have HB6 := Lib.hid (bthen HBw.out (bthen (bdrew (Below.refl _ _)) (bthen hb5 hb6)))
   clear y0 y1 y2 y3 hb5 hb6
   cases pb with
   | true =>
    have HE : Hid (AnyTo (fun x : Ak => !passF x.m (valL l x.m.n)) al (k + 1)) := Lib.hid (by rcases HRnd.out with ⟨g, -⟩ | ⟨-, g⟩; cases g; exact g)
    go_wp2_with fail
    go_roundw
    case rel => exact ⟨k + 1, by omega, by go_num, HE.out, HB6.out⟩
    case measure => simp [intOf] <;> omega
   | false =>
    have HE : Hid (res = false) := Lib.hid (by rw [HAny.out]; rcases HRnd.out with ⟨-, g⟩ | ⟨g, -⟩; rw [g]; rfl; cases g)
    go_wp2_with fail
    go_ret
    exact ⟨ret_bool HE.out.symm, HB6.out⟩
  ·have hEd := hE.done (by rw [← Hm.out]; exact hlt)
   have HE : Hid (res = true) := Lib.hid (by rw [HAny.out, hEd]; rfl)
   clear hE hB hEd
   go_wp2_with fail
   go_ret
   exact ⟨ret_bool HE.out.symm, HBr.out⟩
def NewPost (w : World) (l : List Mt) (e : Ending) (w' : World) : Prop :=
 (readyE l = 0 ∧ ∃ sb v al, e = .returned (.tuple #[.pointer (some ⟨sb, 0, none⟩), .int .i64 0]) ∧ w.heap.size ≤ sb ∧ w'.heap[sb]? = some (.cells #[v] 115 (0, 0)) ∧ al.map Ak.m = l ∧ AksAt w v al w') ∨ (readyE l ≠ 0 ∧ e = .returned (.tuple #[.pointer none, .int .i64 (readyE l)]) ∧ Below w.heap.size w w')
set_option maxRecDepth 100000 in
set_option maxHeartbeats 1000000 in
theorem match_new {D : Nat → Prop} (v : Value) (l : List Mt) (w : World) (hv : Slc 3 Mt.enc w D v l) (hz : ∀ x ∈ l, SzM x) (hT : Tabs w) (h2 : 2 ≤ w.heap.size) :
  Calls Tryz.prog 47 #[v] w (NewPost w l) := by
 have hrd := match_ready v l w hv hz hT h2
 have HRd := Lib.hid hrd
 obtain ⟨A, c, rfl, -⟩ := hv
 generalize l.length = n at *
 clear hrd hz hT
 go_enter Tryz.func47, Tryz.ntmps47
 go_wp2_with fail
 refine HRd.out.mono ?_
 rintro e w1 (⟨h0, v1, al, rfl, hal, hA⟩ | ⟨h0, rfl, hb⟩)
 ·have HA := Lib.hid hA
  have HAl := Lib.hid hal
  have H0 := Lib.hid h0
  obtain ⟨A1, c1, rfl⟩ := own_slice hA.own
  have hfin : NewPost w l (.returned (.tuple #[.pointer (some ⟨w1.heap.size, 0, none⟩), .int .i64 0])) (w1.alloc (.cells #[.slice A1 al.length c1] 115)) :=
   .inl ⟨h0, _, _, al, rfl, hA.below.size, blk_new _ _, hal, hA.then (balloc (Below.refl _ _) _)⟩
  have HFin := Lib.hid hfin
  clear hA hal h0 hfin
  go_wp2_with fail
  go_ret2
  exact HFin.out
 ·have HB := Lib.hid hb
  have H0 := Lib.hid h0
  have hfin : NewPost w l (.returned (.tuple #[.pointer none, .int .i64 (readyE l)])) w1 := .inr ⟨h0, rfl, hb⟩
  have HFin := Lib.hid hfin
  have e0 : (readyE l != 0) = true := by simpa using h0
  generalize readyE l = re at *
  clear hb h0 hfin
  go_wp2_with fail
  go_ret2
  exact HFin.out
set_option maxRecDepth 100000 in
set_option maxHeartbeats 1000000 in
theorem set_match {D D1 D2 : Nat → Prop} {sb : Nat} (v lv : Value) (al : List Ak) (l : List Lb) (w : World) (hs : w.heap[sb]? = some (.cells #[v] 115 (0, 0))) (hpos : 0 < al.length) (hv : Slc 4 Ak.enc w D v al) (hf : ∀ x ∈ al, FormOk w D1 x.m (.pointer x.a)) (hl : SlL w D2 lv l) (hz : ∀ x ∈ l, x.v.size ≤ 1000000) :
  Calls Tryz.prog 49 #[.pointer (some ⟨sb, 0, none⟩), lv] w fun e w' => e = .returned (.bool (passL (al.map Ak.m) l)) ∧ Below w.heap.size w w' := by
 have hps := match_pass v lv al l w hv hf hl hz
 have HPs := Lib.hid hps
 have c0 := blk_cell hs 0
 simp at c0
 obtain ⟨A, c, rfl, -⟩ := hv
 have hd : decide ((al.length : Int) > 0) = true := decide_eq_true (by omega)
 have hd' : decide ((0 : Int) < (al.length : Int)) = true := decide_eq_true (by omega)
 generalize passL (al.map Ak.m) l = res at *
 generalize al.length = n at *
 obtain ⟨A3, c3, rfl, -⟩ := hl
 generalize l.length = nl at *
 have hd2 : decide (0 < n) = true := decide_eq_true hpos
 clear hps hs hf hz
 go_enter Tryz.func49, Tryz.ntmps49
 go_wp2_with fail
 refine HPs.out.mono ?_
 rintro e w1 ⟨rfl, hb⟩
 have HB := Lib.hid hb
 clear hb
 go_wp2_with fail
 go_ret
 exact ⟨rfl, HB.out⟩
end Go.Proofs.YtlhmdgaohonpbaaGreatDoor
