import Derived.Test.YtbjglcdoekbloaaGreatDoorGRwC
import Derived.Test.YtbjglcdoekbloaaGreatDoorGRvD
set_option linter.unusedSimpArgs false
set_option linter.unusedVariables false
set_option linter.unusedSectionVars false
/- the document's head: Record, of a series. -/
namespace Go.Proofs.YtbjglcdoekbloaaGreatDoor
open Go.RowKit Go.Proofs.YtbjglcdoekbloaaGreatDoor.MapRaw Go.ChangeMaps

/-! ### plain -/
theorem find_any {l : List Sr} {f : Sr → Bool} {g : Ky → Bool} (hg : ∀ x, g x.key = f x) : (l.map Sr.key).any g = (l.findIdx? f).isSome := by
  rw [List.any_map]
  have e : g ∘ Sr.key = f := funext hg
  rw [e]
  cases h : l.findIdx? f with
  | none => rw [Option.isSome_none, List.any_eq_false]; intro x hx; have := List.findIdx?_eq_none_iff.1 h x hx; simp [this]
  | some i =>
    obtain ⟨hi, hf, _⟩ := List.findIdx?_eq_some_iff_getElem.1 h
    rw [Option.isSome_some, List.any_eq_true]; exact ⟨_, List.getElem_mem hi, hf⟩
theorem rise_ref {l : List Sr} (h : RiseK (l.map Sr.key)) {x y : Sr} (hx : x ∈ l) (hy : y ∈ l) (e : x.ref = y.ref) : x.key = y.key := by
  obtain ⟨i, hi, e1⟩ := List.getElem_of_mem hx
  obtain ⟨j, hj, e2⟩ := List.getElem_of_mem hy
  have hp := List.pairwise_iff_getElem.1 h
  simp only [List.length_map, List.getElem_map] at hp
  rcases Nat.lt_trichotomy i j with g | g | g
  · have := hp i j hi hj g
    rw [e1, e2] at this
    have h3 : x.ref < y.ref := this
    omega
  · subst g; rw [← e1, ← e2]
  · have := hp j i hj hi g
    rw [e1, e2] at this
    have h3 : y.ref < x.ref := this
    omega
inductive SerCase (l : List Sr) (r : Rec) : Prop
  | same (i : Nat) (h : i < l.length) (h1 : l.findIdx? (refB r.ref) = some i) (h2 : l[i].lab = r.lab) (h3 : recR (l.map Sr.key) r = (0, l.map Sr.key))
  | other (i : Nat) (h : i < l.length) (h1 : l.findIdx? (refB r.ref) = some i) (h2 : ¬ l[i].lab = r.lab) (h3 : recR (l.map Sr.key) r = (100, l.map Sr.key))
  | there (j : Nat) (h1 : l.findIdx? (refB r.ref) = none) (h2 : l.findIdx? (labB r.lab) = some j) (h3 : recR (l.map Sr.key) r = (100, l.map Sr.key))
  | full (h1 : l.findIdx? (refB r.ref) = none) (h2 : l.findIdx? (labB r.lab) = none) (h4 : 4096 ≤ l.length) (h3 : recR (l.map Sr.key) r = (5, l.map Sr.key))
  | fresh (h1 : l.findIdx? (refB r.ref) = none) (h2 : l.findIdx? (labB r.lab) = none) (h4 : ¬ 4096 ≤ l.length) (h3 : recR (l.map Sr.key) r = (0, addL (l.map Sr.key) (r.ref, r.lab, [])))
theorem ser_case {l : List Sr} {r : Rec} (hr : RiseK (l.map Sr.key)) (hc : checkF r = 0) (hk : r.kind = 1) : SerCase l r := by
  have hA := find_any (l := l) (f := refB r.ref) (g := fun k => decide (k.1 = r.ref)) (fun x => rfl)
  have hB := find_any (l := l) (f := labB r.lab) (g := fun k => decide (k.2.1 = r.lab)) (fun x => rfl)
  have hrec : recR (l.map Sr.key) r = (if (l.map Sr.key).any (fun k => decide (k.1 = r.ref) && decide (k.2.1 = r.lab)) = true then (0, l.map Sr.key)
     else if (l.map Sr.key).any (fun k => decide (k.1 = r.ref)) = true ∨ (l.map Sr.key).any (fun k => decide (k.2.1 = r.lab)) = true then (100, l.map Sr.key)
     else if 4096 ≤ (l.map Sr.key).length then (5, l.map Sr.key) else (0, addL (l.map Sr.key) (r.ref, r.lab, []))) := by
    unfold recR; rw [if_neg (by simp [hc]), if_pos hk]
  rw [hA, hB, List.length_map] at hrec
  cases h1 : l.findIdx? (refB r.ref) with
  | some i =>
    obtain ⟨hi, hf, _⟩ := List.findIdx?_eq_some_iff_getElem.1 h1
    have hf' : l[i].ref = r.ref := by simpa [refB] using hf
    by_cases h2 : l[i].lab = r.lab
    · refine .same i hi h1 h2 ?_
      rw [hrec, if_pos]
      rw [List.any_map, List.any_eq_true]
      refine ⟨l[i], List.getElem_mem hi, ?_⟩
      simp [Sr.key, hf', h2]
    · refine .other i hi h1 h2 ?_
      rw [hrec, if_neg, if_pos (by rw [h1]; exact .inl rfl)]
      rw [List.any_map, List.any_eq_true]
      rintro ⟨x, hx, e⟩
      simp only [Function.comp_apply, Bool.and_eq_true, decide_eq_true_eq] at e
      have e1 : x.ref = r.ref := e.1
      have := rise_ref hr hx (List.getElem_mem hi) (e1.trans hf'.symm)
      have h5 : x.lab = l[i].lab := congrArg (fun k => k.2.1) this
      exact h2 (h5.symm.trans e.2)
  | none =>
    have hne : ¬ (l.map Sr.key).any (fun k => decide (k.1 = r.ref) && decide (k.2.1 = r.lab)) = true := by
      rw [List.any_map, List.any_eq_true]
      rintro ⟨x, hx, e⟩
      simp only [Function.comp_apply, Bool.and_eq_true, decide_eq_true_eq] at e
      have e1 : x.ref = r.ref := e.1
      have := List.findIdx?_eq_none_iff.1 h1 x hx
      simp [refB, e1] at this
    rw [if_neg hne, h1] at hrec
    cases h2 : l.findIdx? (labB r.lab) with
    | some j => exact .there j h1 h2 (by rw [hrec, h2, if_pos (.inr rfl)])
    | none =>
      rw [h2, if_neg (by simp)] at hrec
      by_cases h4 : 4096 ≤ l.length
      · exact .full h1 h2 h4 (by rw [hrec, if_pos h4])
      · exact .fresh h1 h2 h4 (by rw [hrec, if_neg h4])

/-! ### memory -/
theorem RTurnPost.same {w w' : World} {X : List Nat} {xp : Nat} {v : Value} {l : List Sr} {n : Int} {r : Int × List Ky} {e : Ending} (h : RfAt w X xp v l) (hX : ∀ k ∈ X, k < w.heap.size) (hb : Below w.heap.size w w') (hr : r = (n, l.map Sr.key)) (he : e = .returned (.int .i64 n)) : RTurnPost w X xp v r e w' := by
  subst hr
  exact ⟨he, X, v, RTurned.same h hX hb⟩
def ownL (v : Value) : List Nat := match v.ownBlock with | some j => [j] | none => []
theorem ownL_mem {v : Value} {k : Nat} : k ∈ ownL v ↔ v.ownBlock = some k := by
  unfold ownL
  cases h : v.ownBlock with
  | none => simp
  | some j => simp; exact ⟨fun e => e.symm, fun e => e.symm⟩
/-- behind add -/
theorem radd_turned {w U w' : World} {X : List Nat} {xp : Nat} {v : Value} {l : List Sr} {x : Sr} {e : Ending} (h : RfAt w X xp v l) (hX : ∀ k ∈ X, k < w.heap.size) (hU : Below w.heap.size w U) (hx : SlL U (fun k => w.heap.size ≤ k) x.lv x.lab ∧ SlP U (fun k => w.heap.size ≤ k) x.pv x.pts) (ha : AddRPost U xp l x e w') :
    ∃ v', RTurned w X xp v w' (X ++ ownL v') v' (addL (l.map Sr.key) x.key) := by
  obtain ⟨_, v', h1, h2, h3⟩ := ha
  have hxp : xp < w.heap.size := h.lt xp (.inl rfl)
  have hb := fun k hk => ownsRow_blk h2 k hk
  have hs := hU.size
  have hA : Apart (blksR xp v) w w' := (below_apart hU _).trans h3 (fun i hi e => .inl e)
  have hlt : ∀ k ∈ X ++ ownL v', k < w'.heap.size := fun k hk => by
    rcases List.mem_append.1 hk with hk | hk
    · exact Nat.lt_of_lt_of_le (hX k hk) hA.size
    · exact (hb k (ownL_mem.1 hk)).2
  have hnew : ∀ k ∈ X ++ ownL v', k ∈ X ∨ w.heap.size ≤ k := fun k hk => by
    rcases List.mem_append.1 hk with hk | hk
    · exact .inl hk
    · exact .inr (by have := (hb k (ownL_mem.1 hk)).1; omega)
  have hall : SrOk U (fun k => k ∉ X ++ ownL v' ∧ k ≠ xp) (addS l x) := by
    have hold : SrOk U (fun k => k ∉ X ∧ k < w.heap.size) l := SrOk.below (SrOk.mono (D' := fun k => k ∉ X ∧ k < w.heap.size) h.ok (fun k hk hD => ⟨hD, hk⟩)) hU
    have key1 : ∀ k, k ∉ X ∧ k < w.heap.size → k ∉ X ++ ownL v' ∧ k ≠ xp := fun k hk => ⟨fun hm => (hnew k hm).elim hk.1 (fun h => by omega), fun e => hk.1 (e ▸ h.mem)⟩
    have key2 : ∀ k, k < U.heap.size → w.heap.size ≤ k → k ∉ X ++ ownL v' ∧ k ≠ xp := fun k hkU hk => ⟨fun hm => by
      rcases List.mem_append.1 hm with hm | hm
      · have := hX k hm; omega
      · have := (hb k (ownL_mem.1 hm)).1; omega, fun e => by omega⟩
    intro y hy
    have hy' : y ∈ l ∨ y = x := by
      unfold addS at hy
      rcases List.mem_append.1 hy with hy | hy
      · exact .inl (List.mem_filter.1 hy).1
      · rcases List.mem_cons.1 hy with hy | hy
        · exact .inr hy
        · exact .inl (List.mem_filter.1 hy).1
    rcases hy' with hy | rfl
    · exact ⟨Slc.mono (hold y hy).1 (fun k _ hk => key1 k hk), Slc.mono (hold y hy).2 (fun k _ hk => key1 k hk)⟩
    · exact ⟨Slc.mono hx.1 (fun k hk hk2 => key2 k hk hk2), Slc.mono hx.2 (fun k hk hk2 => key2 k hk hk2)⟩
  refine ⟨v', ⟨addS l x, ⟨h1, ⟨_, h2⟩, fun j hj => ⟨List.mem_append_right _ (ownL_mem.2 hj), by have := (hb j hj).1; omega⟩, List.mem_append_left _ h.mem, ?_⟩, addS_key l x⟩, ⟨fun k hk => List.mem_append_left _ hk, hnew⟩, hlt, hA, .inr (fun j hj => by have := (hb j hj).1; omega)⟩
  exact SrOk.mono (SrOk.move hall h3.size (fun k hk hD => h3.block k hk hD.2)) (fun k _ hD => hD.1)
set_option maxRecDepth 100000 in
set_option maxHeartbeats 2000000 in
theorem ref14_record1 {X : List Nat} {xp : Nat} {v : Value} {l : List Sr} (r : Rec) (lv pv : Value) (w : World) (h : RfAt w X xp v l) (hX : ∀ k ∈ X, k < w.heap.size) (hn : l.length ≤ 4096) (hri : RiseK (l.map Sr.key)) (hl : SlL w (fun k => k ∉ X) lv r.lab) (hp : SlE w (fun k => k ∉ X) pv r.pts) (hz : SzL r.lab) (hk : checkF r ≠ 0 ∨ r.kind = 1) :
    Calls Tryz.prog 44 #[.pointer (some ⟨xp, 0, none⟩), .agg #[.int .i64 r.kind, .int .u32 r.ref, lv, pv]] w (RTurnPost w X xp v (recR (l.map Sr.key) r)) := by
  have hck := fun (W : World) (hW : Below w.heap.size w W) => ref13_check r lv pv W (hl.below hW) (hp.below hW) hz
  have HCK := Lib.hid hck
  have hsame := fun (n : Int) (w' : World) (r' : Int × List Ky) (e : Ending) => RTurnPost.same (n := n) (w' := w') (r := r') (e := e) h hX
  have HSame := Lib.hid hsame
  by_cases h0 : checkF r ≠ 0
  · have e : recR (l.map Sr.key) r = (checkF r, l.map Sr.key) := by unfold recR; rw [if_pos h0]
    have h0' : (checkF r != 0) = true := by simpa using h0
    have HE := Lib.hid e
    generalize recR (l.map Sr.key) r = res at *
    generalize checkF r = q at *
    clear e hck h hX hn hri hz hk h0 hsame
    obtain ⟨A, c, rfl, -⟩ := hl
    obtain ⟨B, d, rfl, -⟩ := hp
    go_enter Tryz.func44, Tryz.ntmps44
    have HB0 : Hid (Below w.heap.size w (w.alloc (.cells #[.int .i64 r.kind, .int .u32 r.ref, .slice A r.lab.length c, .slice B r.pts.length d] 45))) := Lib.hid (balloc (Below.refl _ _) _)
    go_wp2_with fail
    refine (HCK.out _ HB0.out).mono ?_
    rintro e w1 ⟨rfl, hB1⟩
    go_wp2
    go_ret
    exact HSame.out _ _ _ _ (bthen HB0.out hB1) HE.out rfl
  · have h00 : checkF r = 0 := by simpa using h0
    have h1 : r.kind = 1 := hk.resolve_left h0
    rw [h00] at HCK
    have hcase := ser_case hri h00 h1
    have hslc := h.slc
    have c0 := blk_cell h.hc 0
    simp at c0
    have href := fun (W : World) (hW : Below w.heap.size w W) => ref14_ref xp v l r.ref W (later hW c0) (hslc.below hW) (h.ok.below hW)
    have hat := fun (W : World) (hW : Below w.heap.size w W) => ref14_at xp v lv l r.lab W (later hW c0) (hslc.below hW) (h.ok.below hW) (hl.below hW)
    have hadd := fun (x : Sr) (W : World) (hW : Below w.heap.size w W) (hx : SlL W (fun k => w.heap.size ≤ k) x.lv x.lab ∧ SlP W (fun k => w.heap.size ≤ k) x.pv x.pts) => ref14_add xp v l x W (blk_below h.hc hW) (hslc.below hW) (h.ok.below hW) hx (by omega)
    have hturn := fun {U w' : World} {x : Sr} {e : Ending} => radd_turned (U := U) (w' := w') (x := x) (e := e) h hX
    have HREF := Lib.hid href
    have HAT := Lib.hid hat
    have HADD := Lib.hid hadd
    have HTurn := Lib.hid (fun (U w' : World) (x : Sr) (e : Ending) => radd_turned (U := U) (w' := w') (x := x) (e := e) h hX)
    have HLV := Lib.hid hl
    have HOk := Lib.hid h.ok
    have hsrc := hl.src lb_len lb_one (by decide)
    have HSrc := Lib.hid hsrc
    have hr16 := (check_series h00 h1).2
    have hlab : r.lab.length ≤ 16 := by
      by_cases h16 : 16 < r.lab.length
      · unfold rightF at hr16; rw [if_pos h16] at hr16; cases hr16
      · omega
    obtain ⟨A, c, rfl, q1, q2, q3, q4, q5⟩ := hslc
    have HRd := Lib.hid q5
    obtain ⟨A1, c1, rfl, -⟩ := hl
    obtain ⟨A2, c2, rfl, -⟩ := hp
    rw [h1] at HCK ⊢
    obtain ⟨rk, rr, rlab, rpts⟩ := r
    simp only at *
    obtain ⟨n, hnn⟩ : ∃ n, n = l.length := ⟨_, rfl⟩
    have Hn := Lib.hid hnn
    rw [← hnn] at c0 hn
    generalize hn1 : rlab.length = n1 at *
    have Hn1 := Lib.hid hn1
    clear hn1
    generalize rpts.length = n2 at *
    have HB0 : Hid (Below w.heap.size w (w.alloc (.cells #[.int .i64 1, .int .u32 rr, .slice A1 n1 c1, .slice A2 n2 c2] 45))) := Lib.hid (balloc (Below.refl _ _) _)
    clear h0 h00 h1 hk href hat hadd hturn hsrc hr16 q1 q2 q3 q4 q5 h hck hsame hri hz hX hnn
    have C0 := Lib.hid c0
    rcases hcase with ⟨i, hi, g1, g2, g3⟩ | ⟨i, hi, g1, g2, g3⟩ | ⟨j, g1, g2, g3⟩ | ⟨g1, g2, g4, g3⟩ | ⟨g1, g2, g4, g3⟩
    · have hix : ixF (l.findIdx? (refB rr)) = (i : Int) := by rw [g1]; rfl
      rw [hix] at HREF
      have hin : i < n := by rw [Hn.out]; exact hi
      obtain ⟨b, off, rfl, -, z1, -⟩ := rdSr_at HRd.out hi
      have hx := HOk.out _ (List.getElem_mem hi)
      have hsm := lab_same w hx.1 HLV.out
      obtain ⟨⟨A4, c4, e4, -⟩, -⟩ := hx
      rw [e4] at z1 hsm
      generalize hn4 : l[i].lab.length = n4 at *
      clear hn4
      simp only [g2, decide_true] at hsm
      have HSm := Lib.hid hsm
      have Z1 := Lib.hid z1
      have G3 := Lib.hid g3
      have hi0 : (0 : Int) ≤ (i : Int) := by omega
      have hi1 : (i : Int) < (n : Int) := by omega
      clear hix g1 g2 g3 e4 z1 hsm c0 hi
      go_enter Tryz.func44, Tryz.ntmps44
      go_wp2_with fail
      refine (HCK.out _ HB0.out).mono ?_
      rintro e w1 ⟨rfl, hB1⟩
      obtain ⟨d0, d1, d2, d3, hB, _⟩ := new4 hB1
      have HB1 := Lib.hid hB
      clear hB1 hB
      go_wp2_with fail
      refine (HREF.out _ HB1.out).mono ?_
      rintro e w2 ⟨rfl, hb2⟩
      have HB2 := Lib.hid (bthen HB1.out hb2)
      have e1 := later hb2 d1
      have e2 := later hb2 d2
      have E1 := Lib.hid e1
      have E2 := Lib.hid e2
      clear hb2 d0 d1 d2 d3
      have f0 : w2.drew.cell? ⟨xp, 0, none⟩ = some (.slice (some ⟨b, off, none⟩) n c) := later HB2.out C0.out
      have f1 : w2.drew.cell? ⟨b, off + i * 3 + 1, none⟩ = some (.slice A4 n4 c4) := later HB2.out Z1.out
      have f2 : w2.drew.cell? ⟨w.heap.size, 2, none⟩ = some (.slice A1 n1 c1) := E2.out
      go_wp2_with fail
      go_region_held3 (fun w' => w'.cell? ⟨xp, 0, none⟩ = some (.slice (some ⟨b, off, none⟩) n c) ∧ w'.cell? ⟨b, off + i * 3 + 1, none⟩ = some (.slice A4 n4 c4) ∧ w'.cell? ⟨w.heap.size, 2, none⟩ = some (.slice A1 n1 c1)) (first | exact ⟨f0, f1, f2⟩ | exact ⟨later hb' f0, later hb' f1, later hb' f2⟩)
        (first | (go_at_call 24; refine (HSm.out _ (bthen HB2.out (bdrew (Below.refl _ _)))).mono ?_; rintro e w' ⟨rfl, hb'⟩))
      have HB3 := Lib.hid (bthen HB2.out (bthen (bdrew (Below.refl _ _)) hb'))
      clear f0 f1 f2 hb'
      go_wp2_with fail
      go_ret
      exact HSame.out _ _ _ _ HB3.out G3.out rfl
    · have hix : ixF (l.findIdx? (refB rr)) = (i : Int) := by rw [g1]; rfl
      rw [hix] at HREF
      have hin : i < n := by rw [Hn.out]; exact hi
      obtain ⟨b, off, rfl, -, z1, -⟩ := rdSr_at HRd.out hi
      have hx := HOk.out _ (List.getElem_mem hi)
      have hsm := lab_same w hx.1 HLV.out
      obtain ⟨⟨A4, c4, e4, -⟩, -⟩ := hx
      rw [e4] at z1 hsm
      generalize hn4 : l[i].lab.length = n4 at *
      clear hn4
      simp only [g2, decide_false] at hsm
      have HSm := Lib.hid hsm
      have Z1 := Lib.hid z1
      have G3 := Lib.hid g3
      have hi0 : (0 : Int) ≤ (i : Int) := by omega
      have hi1 : (i : Int) < (n : Int) := by omega
      clear hix g1 g2 g3 e4 z1 hsm c0 hi
      go_enter Tryz.func44, Tryz.ntmps44
      go_wp2_with fail
      refine (HCK.out _ HB0.out).mono ?_
      rintro e w1 ⟨rfl, hB1⟩
      obtain ⟨d0, d1, d2, d3, hB, _⟩ := new4 hB1
      have HB1 := Lib.hid hB
      clear hB1 hB
      go_wp2_with fail
      refine (HREF.out _ HB1.out).mono ?_
      rintro e w2 ⟨rfl, hb2⟩
      have HB2 := Lib.hid (bthen HB1.out hb2)
      have e1 := later hb2 d1
      have e2 := later hb2 d2
      have E1 := Lib.hid e1
      have E2 := Lib.hid e2
      clear hb2 d0 d1 d2 d3
      have f0 : w2.drew.cell? ⟨xp, 0, none⟩ = some (.slice (some ⟨b, off, none⟩) n c) := later HB2.out C0.out
      have f1 : w2.drew.cell? ⟨b, off + i * 3 + 1, none⟩ = some (.slice A4 n4 c4) := later HB2.out Z1.out
      have f2 : w2.drew.cell? ⟨w.heap.size, 2, none⟩ = some (.slice A1 n1 c1) := E2.out
      go_wp2_with fail
      go_region_held3 (fun w' => w'.cell? ⟨xp, 0, none⟩ = some (.slice (some ⟨b, off, none⟩) n c) ∧ w'.cell? ⟨b, off + i * 3 + 1, none⟩ = some (.slice A4 n4 c4) ∧ w'.cell? ⟨w.heap.size, 2, none⟩ = some (.slice A1 n1 c1)) (first | exact ⟨f0, f1, f2⟩ | exact ⟨later hb' f0, later hb' f1, later hb' f2⟩)
        (first | (go_at_call 24; refine (HSm.out _ (bthen HB2.out (bdrew (Below.refl _ _)))).mono ?_; rintro e w' ⟨rfl, hb'⟩))
      have HB3 := Lib.hid (bthen HB2.out (bthen (bdrew (Below.refl _ _)) hb'))
      clear f0 f1 f2 hb'
      go_wp2_with fail
      go_ret
      exact HSame.out _ _ _ _ HB3.out G3.out rfl
    · have hix : ixF (l.findIdx? (refB rr)) = -1 := by rw [g1]; rfl
      rw [hix] at HREF
      have hjx : ixF (l.findIdx? (labB rlab)) = (j : Int) := by rw [g2]; rfl
      rw [hjx] at HAT
      have G3 := Lib.hid g3
      have hj0 : (0 : Int) ≤ (j : Int) := by omega
      clear hix hjx g1 g2 g3 c0
      go_enter Tryz.func44, Tryz.ntmps44
      go_wp2_with fail
      refine (HCK.out _ HB0.out).mono ?_
      rintro e w1 ⟨rfl, hB1⟩
      obtain ⟨d0, d1, d2, d3, hB, _⟩ := new4 hB1
      have HB1 := Lib.hid hB
      clear hB1 hB
      go_wp2_with fail
      refine (HREF.out _ HB1.out).mono ?_
      rintro e w2 ⟨rfl, hb2⟩
      have HB2 := Lib.hid (bthen HB1.out hb2)
      have e1 := later hb2 d1
      have e2 := later hb2 d2
      have E1 := Lib.hid e1
      have E2 := Lib.hid e2
      clear hb2 d0 d1 d2 d3
      go_wp2_with fail
      go_quiet (fail)
      go_wp2_with fail
      refine (HAT.out _ (bthen HB2.out (bdr (Below.refl _ _) _))).mono ?_
      rintro e w3 ⟨rfl, hb3⟩
      have HB3 := Lib.hid (bthen (bthen HB2.out (bdr (Below.refl _ _) _)) hb3)
      clear hb3
      go_wp2_with fail
      go_ret
      exact HSame.out _ _ _ _ HB3.out G3.out rfl
    · have hix : ixF (l.findIdx? (refB rr)) = -1 := by rw [g1]; rfl
      rw [hix] at HREF
      have hjx : ixF (l.findIdx? (labB rlab)) = -1 := by rw [g2]; rfl
      rw [hjx] at HAT
      have G3 := Lib.hid g3
      have h4 : (4096 : Int) ≤ (n : Int) := by rw [← Hn.out] at g4; omega
      clear g4
      clear hix hjx g1 g2 g3 c0
      go_enter Tryz.func44, Tryz.ntmps44
      go_wp2_with fail
      refine (HCK.out _ HB0.out).mono ?_
      rintro e w1 ⟨rfl, hB1⟩
      obtain ⟨d0, d1, d2, d3, hB, _⟩ := new4 hB1
      have HB1 := Lib.hid hB
      clear hB1 hB
      go_wp2_with fail
      refine (HREF.out _ HB1.out).mono ?_
      rintro e w2 ⟨rfl, hb2⟩
      have HB2 := Lib.hid (bthen HB1.out hb2)
      have e1 := later hb2 d1
      have e2 := later hb2 d2
      have E1 := Lib.hid e1
      have E2 := Lib.hid e2
      clear hb2 d0 d1 d2 d3
      go_wp2_with fail
      go_quiet (fail)
      go_wp2_with fail
      refine (HAT.out _ (bthen HB2.out (bdr (Below.refl _ _) _))).mono ?_
      rintro e w3 ⟨rfl, hb3⟩
      have HB3 := Lib.hid (bthen (bthen HB2.out (bdr (Below.refl _ _) _)) hb3)
      clear hb3
      have c3 := later HB3.out C0.out
      go_wp2_with fail
      go_ret
      exact HSame.out _ _ _ _ HB3.out G3.out rfl
    · have hix : ixF (l.findIdx? (refB rr)) = -1 := by rw [g1]; rfl
      rw [hix] at HREF
      have hjx : ixF (l.findIdx? (labB rlab)) = -1 := by rw [g2]; rfl
      rw [hjx] at HAT
      have G3 := Lib.hid g3
      have h4 : ¬ (4096 : Int) ≤ (n : Int) := by rw [← Hn.out] at g4; omega
      have Hxp := Lib.hid (World.block_lt_of_cell? w _ c0)
      clear hix hjx g1 g2 g3 c0 g4
      go_enter Tryz.func44, Tryz.ntmps44
      go_wp2_with fail
      refine (HCK.out _ HB0.out).mono ?_
      rintro e w1 ⟨rfl, hB1⟩
      obtain ⟨d0, d1, d2, d3, hB, _⟩ := new4 hB1
      have HB1 := Lib.hid hB
      clear hB1 hB
      go_wp2_with fail
      refine (HREF.out _ HB1.out).mono ?_
      rintro e w2 ⟨rfl, hb2⟩
      have HB2 := Lib.hid (bthen HB1.out hb2)
      have e1 := later hb2 d1
      have e2 := later hb2 d2
      have E1 := Lib.hid e1
      have E2 := Lib.hid e2
      clear hb2 d0 d1 d2 d3
      go_wp2_with fail
      go_quiet (fail)
      go_wp2_with fail
      refine (HAT.out _ (bthen HB2.out (bdr (Below.refl _ _) _))).mono ?_
      rintro e w3 ⟨rfl, hb3⟩
      have HB3 := Lib.hid (bthen (bthen HB2.out (bdr (Below.refl _ _) _)) hb3)
      have HB23 := Lib.hid (bthen (bdr (Below.refl w2.heap.size w2) _) hb3)
      clear hb3
      have c3 := later HB3.out C0.out
      have k1 := later HB23.out e1
      have k2 := later HB23.out e2
      have K1 := Lib.hid k1
      have K2 := Lib.hid k2
      have hbL0 : Below w3.heap.size w3 (w3.alloc (.cells #[] 124)) := balloc (Below.refl _ _) _
      have f1 : (w3.alloc (.cells #[] 124)).drew.cell? ⟨w.heap.size, 1, none⟩ = some (.int .u32 rr) := later hbL0 k1
      have f2 : (w3.alloc (.cells #[] 124)).drew.cell? ⟨w.heap.size, 2, none⟩ = some (.slice A1 n1 c1) := later hbL0 k2
      clear e1 e2 k1 k2
      go_wp2_with fail
      go_region_held3 (fun w' => w'.cell? ⟨w.heap.size, 1, none⟩ = some (.int .u32 rr) ∧ w'.cell? ⟨w.heap.size, 2, none⟩ = some (.slice A1 n1 c1)) (first | exact ⟨f1, f2⟩ | exact ⟨later hW3L K1.out, later hW3L K2.out⟩ | exact ⟨t1, t2⟩)
        (first | (refine step_lit lb_len (o := ⟨some 70, _, _, _, _, _⟩) (B0 := w3.heap.size) rfl _ _ 42 124 _ 32 rfl Tryz.underlying42 info_lb rfl (by decide) (by decide) _ rfl _ rfl rlab ?_ ?_ ?_ ?_ ?_ ?_; (first | exact blk_new _ _ | exact blk_below (blk_new _ _) (bdrew (Below.refl _ _))); (rw [Hn1.out]; exact HSrc.out.below (bthen HB3.out (bdrew hbL0))); (have := Hn1.out; omega); exact Nat.le_refl _; (exact (show Below w3.heap.size w3 _ from bdrew hbL0).size); intro vL wL hSL hBL; have hW3L : Below w3.heap.size w3 wL := bthen (bdrew hbL0) hBL; obtain ⟨AL, cL, rfl, -⟩ := id hSL; have HSL := Lib.hid hSL; clear hSL hBL) | (go_at_call 85; refine (HADD.out ⟨rr, .slice AL rlab.length cL, rlab, .slice none 0 0, []⟩ _ (bthen HB3.out hW3L) ⟨HSL.out.mono (fun k _ hk => Nat.le_trans HB3.out.size hk), Slc.nil _ _ _ _⟩).mono ?_; rintro e w' hA; obtain ⟨rfl, v', h1', h2', h3'⟩ := id hA; have HA := Lib.hid hA; have t1 := h3'.cell (show ¬ w.heap.size = xp from fun e => by have h9 : xp < w.heap.size := Hxp.out; omega) (later hW3L K1.out); have t2 := h3'.cell (show ¬ w.heap.size = xp from fun e => by have h9 : xp < w.heap.size := Hxp.out; omega) (later hW3L K2.out); clear h1' h2' h3' hA))
      obtain ⟨v5, hT⟩ := HTurn.out _ _ _ _ (bthen HB3.out hW3L) ⟨HSL.out.mono (fun k _ hk => Nat.le_trans HB3.out.size hk), Slc.nil _ _ _ _⟩ HA.out
      have HT := Lib.hid hT
      clear hT f1 f2 t1 t2 hW3L hbL0
      go_wp2_with fail
      go_ret
      rw [G3.out]
      exact ⟨rfl, _, v5, HT.out⟩
end Go.Proofs.YtbjglcdoekbloaaGreatDoor

/- plain: the points of a record, in the document's head. -/
namespace Go.Proofs.YtbjglcdoekbloaaGreatDoor
open Go.Proofs.YtbjglcdoekbloaaGreatDoor.MapRaw

theorem put_right {l : List Pt} {p : Pt} (h : rightP l = true) : rightP (putF l p).1 = true := by
  by_cases h0 : (putF l p).2.2 = 0
  · exact (put_has h0).right
  · unfold putF at h0 ⊢
    by_cases h1 : p.S = 0 ∨ rightP l = false
    · rw [if_pos h1]; exact h
    · rw [if_neg h1] at h0 ⊢
      by_cases h2 : hasP l p.T = false
      · rw [if_pos h2] at h0 ⊢
        by_cases h3 : 65536 ≤ l.length
        · rw [if_pos h3]; exact h
        · rw [if_neg h3] at h0; exact (h0 rfl).elim
      · rw [if_neg h2] at h0
        by_cases h3 : p = (l[lowP l p.T]?.getD p) ∨ aheadB p (l[lowP l p.T]?.getD p) = false
        · rw [if_pos h3] at h0; exact (h0 rfl).elim
        · rw [if_neg h3] at h0; exact (h0 rfl).elim
/-- what holds of the list while points come -/
structure RK (L : List Ky) : Prop where
  rise : RiseK L
  right : ∀ k ∈ L, rightP k.2.2 = true
theorem RK.put {L : List Ky} (h : RK L) (x : En) : RK (putK L x) := by
  refine ⟨rise_fst h.rise (setL_fst _ _ _), fun k hk => ?_⟩
  unfold putK setL at hk
  obtain ⟨a, ha, rfl⟩ := List.mem_map.1 hk
  split
  · exact put_right (h.right a ha)
  · exact h.right a ha
theorem puts_fst : ∀ (es : List En) (L : List Ky), (es.foldl putK L).map (·.1) = L.map (·.1)
  | [], _ => rfl
  | x :: es, L => by rw [List.foldl_cons, puts_fst es]; exact setL_fst _ _ _
theorem any_fst {L L' : List Ky} (e : L'.map (·.1) = L.map (·.1)) (r : Int) : L'.any (fun k => decide (k.1 = r)) = L.any (fun k => decide (k.1 = r)) := by
  have h : ∀ L : List Ky, L.any (fun k => decide (k.1 = r)) = (L.map (·.1)).any (fun q => decide (q = r)) := fun L => by rw [List.any_map]; rfl
  rw [h, h, e]
theorem foldl_take {α β : Type} (f : β → α → β) (b : β) (l : List α) (k : Nat) (hk : k < l.length) : (l.take (k + 1)).foldl f b = f ((l.take k).foldl f b) l[k] := by
  rw [List.take_succ_eq_append_getElem hk, List.foldl_append]; rfl
theorem set_key {l : List Sr} (hr : RiseK (l.map Sr.key)) {i : Nat} (hi : i < l.length) {x : En} (hx : l[i].ref = x.ref) (u : Value) :
    (l.set i ⟨l[i].ref, l[i].lv, l[i].lab, u, (putF l[i].pts x.p).1⟩).map Sr.key = putK (l.map Sr.key) x := by
  refine List.ext_getElem (by simp [putK, setL]) (fun j h1 h2 => ?_)
  have hj : j < l.length := by simpa using h1
  unfold putK setL
  simp only [List.getElem_map, List.getElem_set]
  by_cases e : i = j
  · subst e
    rw [if_pos rfl, if_pos (show l[i].key.1 = x.ref from hx)]
    rfl
  · rw [if_neg e, if_neg]
    intro e2
    have e3 : l[j].ref = x.ref := e2
    have hp := List.pairwise_iff_getElem.1 hr
    simp only [List.length_map, List.getElem_map] at hp
    rcases Nat.lt_or_gt_of_ne e with g | g
    · have h3 : l[i].ref < l[j].ref := hp i j hi hj g
      omega
    · have h3 : l[j].ref < l[i].ref := hp j i hj hi g
      omega
theorem flat_set_sr (l : List Sr) (u : Value) (q : List Pt) : ∀ (i : Nat) (hi : i < l.length), (l.flatMap Sr.enc).set (i * 3 + 2) u = (l.set i ⟨l[i].ref, l[i].lv, l[i].lab, u, q⟩).flatMap Sr.enc := by
  induction l with
  | nil => intro i hi; simp at hi
  | cons x l ih =>
    intro i hi
    cases i with
    | zero => simp [Sr.enc]
    | succ i =>
      have h := ih i (by simpa using hi)
      have e : (i + 1) * 3 + 2 = (i * 3 + 2) + 1 + 1 + 1 := by omega
      rw [List.flatMap_cons]
      simp only [e, Sr.enc, List.cons_append, List.nil_append, List.set_cons_succ, List.getElem_cons_succ, List.flatMap_cons] at *
      rw [h]
/-- the tests of a record of points -/
def lostK (K : List Ky) (x : En) : Bool := !K.any (fun k => decide (k.1 = x.ref))
def muchS (es : List En) (s : Sr) : Bool := decide (65536 < s.pts.length + cntF (es.map En.ref) s.ref)
theorem rec_pts {l : List Sr} {r : Rec} (h0 : checkF r = 0) (h1 : r.kind ≠ 1) :
    recR (l.map Sr.key) r = if r.pts.any (lostK (l.map Sr.key)) = true then (101, l.map Sr.key) else if l.any (muchS r.pts) = true then (5, l.map Sr.key) else (0, r.pts.foldl putK (l.map Sr.key)) := by
  unfold recR
  rw [if_neg (by simp [h0]), if_neg h1, List.any_map]
  rfl
theorem lost_find {l : List Sr} {x : En} : lostK (l.map Sr.key) x = (l.findIdx? (refB x.ref)).isNone := by
  unfold lostK
  rw [find_any (f := refB x.ref) (fun y => rfl)]
  cases l.findIdx? (refB x.ref) <;> rfl
theorem find_some {l : List Sr} {q : Int} (h : (l.map Sr.key).any (fun k => decide (k.1 = q)) = true) : ∃ i, ∃ hi : i < l.length, l.findIdx? (refB q) = some i ∧ l[i].ref = q := by
  rw [find_any (f := refB q) (fun y => rfl)] at h
  obtain ⟨i, hi⟩ := Option.isSome_iff_exists.1 h
  obtain ⟨h1, h2, _⟩ := List.findIdx?_eq_some_iff_getElem.1 hi
  exact ⟨i, h1, hi, by simpa [refB] using h2⟩
theorem cnt_take (es : List En) (q : Int) (k : Nat) (hk : k < es.length) : cntF ((es.take (k + 1)).map En.ref) q = cntF ((es.take k).map En.ref) q + (if es[k].ref = q then 1 else 0) := by
  rw [List.take_succ_eq_append_getElem hk, List.map_append]
  unfold cntF
  rw [List.filter_append, List.length_append]
  congr 1
  by_cases e : es[k].ref = q
  · simp [e]
  · simp [e]
theorem cnt_le (es : List En) (q : Int) (k : Nat) : cntF ((es.take k).map En.ref) q ≤ k := by
  unfold cntF
  refine Nat.le_trans (List.length_filter_le _ _) ?_
  rw [List.length_map, List.length_take]; omega
theorem i64_small {n : Int} (h0 : -9223372036854775808 ≤ n) (h1 : n < 9223372036854775808) : IntKind.i64.wrap n = n := by
  unfold IntKind.wrap; simp [IntKind.bits, IntKind.signed]; omega
end Go.Proofs.YtbjglcdoekbloaaGreatDoor

/- the document's head: Record, of points; the whole. -/
namespace Go.Proofs.YtbjglcdoekbloaaGreatDoor
open Go.RowKit Go.Proofs.YtbjglcdoekbloaaGreatDoor.MapRaw Go.ChangeMaps

theorem row_put {w3 : World} {X : List Nat} {xp g n c i : Nat} {ls : List Sr} {u : Value} {q : List Pt} {B : Nat} (h : RfAt w3 X xp (.slice (some ⟨g, 0, none⟩) n c) ls) (hX : ∀ k ∈ X, k < B) (hu : SlP w3 (fun k => B ≤ k) u q) (hi : i < ls.length) :
    RfAt (w3.setCell ⟨g, i * 3 + 2, none⟩ u) X xp (.slice (some ⟨g, 0, none⟩) n c) (ls.set i ⟨ls[i].ref, ls[i].lv, ls[i].lab, u, q⟩) := by
  obtain ⟨hgX, hgx⟩ := h.blk g rfl
  obtain ⟨B1, ho⟩ := h.own
  have hn : n = ls.length := by
    rcases ho.2 with ⟨e, _⟩ | ⟨g', cap, cur, e, _⟩
    · cases e
    · injection e
  rw [← hn] at ho
  have s1 := (ho.stored (i * 3 + 2) u).1
  rw [flat_set_sr ls u q i hi] at s1
  have hk : ∀ k, k ∉ X → (w3.setCell ⟨g, i * 3 + 2, none⟩ u).heap[k]? = w3.heap[k]? := fun k hk => Below.heap_setCell _ _ _ _ (fun e => hk (e ▸ hgX))
  have hs : w3.heap.size ≤ (w3.setCell ⟨g, i * 3 + 2, none⟩ u).heap.size := by simp [World.setCell]
  refine ⟨by rw [Below.heap_setCell _ _ _ _ (Ne.symm hgx)]; exact h.hc, ⟨B1, by rw [List.length_set, ← hn]; exact s1⟩, h.blk, h.mem, fun y hy => ?_⟩
  rcases List.mem_or_eq_of_mem_set hy with hy | rfl
  · exact ⟨(h.ok y hy).1.move hs (fun k _ hD => hk k hD), (h.ok y hy).2.move hs (fun k _ hD => hk k hD)⟩
  · exact ⟨(h.ok _ (List.getElem_mem hi)).1.move hs (fun k _ hD => hk k hD), (Slc.mono hu (fun k _ hD hm => by have := hX k hm; omega)).move hs (fun k _ hD => hk k hD)⟩
/-- where the last loop stands -/
structure PutsTo (W1 : World) (X : List Nat) (xp : Nat) (v : Value) (K : List Ky) (es : List En) (k : Nat) (wr : World) : Prop where
  ex : ∃ ls, RfAt wr X xp v ls ∧ ls.map Sr.key = (es.take k).foldl putK K
  rk : RK ((es.take k).foldl putK K)
  apart : Apart (blksR xp v) W1 wr
theorem PutsTo.then {W1 wr w2 : World} {X : List Nat} {xp : Nat} {v : Value} {K : List Ky} {es : List En} {k : Nat} (h : PutsTo W1 X xp v K es k wr) (hb : Below wr.heap.size wr w2) : PutsTo W1 X xp v K es k w2 := by
  obtain ⟨ls, h1, h2⟩ := h.ex
  exact ⟨⟨ls, h1.below hb, h2⟩, h.rk, h.apart.then hb⟩
theorem puts_next {W1 w3 : World} {X : List Nat} {xp g n c i B k : Nat} {K : List Ky} {es : List En} {ls : List Sr} {u : Value} {x : En} (h : RfAt w3 X xp (.slice (some ⟨g, 0, none⟩) n c) ls) (hls : ls.map Sr.key = (es.take k).foldl putK K) (hrk : RK ((es.take k).foldl putK K)) (hA : Apart (blksR xp (.slice (some ⟨g, 0, none⟩) n c)) W1 w3)
    (hX : ∀ k ∈ X, k < B) (hi : i < ls.length) (hx : ls[i].ref = x.ref) (hu : SlP w3 (fun k => B ≤ k) u (putF ls[i].pts x.p).1) (hk : (es.take (k + 1)).foldl putK K = putK ((es.take k).foldl putK K) x) :
    PutsTo W1 X xp (.slice (some ⟨g, 0, none⟩) n c) K es (k + 1) (w3.setCell ⟨g, i * 3 + 2, none⟩ u) := by
  refine ⟨⟨_, row_put h hX hu hi, ?_⟩, by rw [hk]; exact hrk.put x, hA.setC ⟨g, i * 3 + 2, none⟩ (.inl (.inr rfl)) u⟩
  rw [hk, ← hls]
  exact set_key (by rw [hls]; exact hrk.rise) hi hx u
set_option maxRecDepth 100000 in
set_option maxHeartbeats 4000000 in
theorem ref14_record2 {X : List Nat} {xp : Nat} {v : Value} {l : List Sr} (r : Rec) (lv pv : Value) (w : World) (h : RfAt w X xp v l) (hX : ∀ k ∈ X, k < w.heap.size) (hn : l.length ≤ 4096) (hrk : RK (l.map Sr.key)) (hl : SlL w (fun k => k ∉ X) lv r.lab) (hp : SlE w (fun k => k ∉ X) pv r.pts) (hz : SzL r.lab) (h00 : checkF r = 0) (h1 : r.kind ≠ 1) :
    Calls Tryz.prog 44 #[.pointer (some ⟨xp, 0, none⟩), .agg #[.int .i64 r.kind, .int .u32 r.ref, lv, pv]] w (RTurnPost w X xp v (recR (l.map Sr.key) r)) := by
  have hck := fun (W : World) (hW : Below w.heap.size w W) => ref13_check r lv pv W (hl.below hW) (hp.below hW) hz
  rw [h00] at hck
  obtain ⟨h2, h256⟩ := check_points h00 h1
  have hS := check_pts h00 h1
  have hrec := rec_pts (l := l) h00 h1
  have hslc := h.slc
  have c0 := blk_cell h.hc 0
  simp at c0
  have href := fun (q : Int) (W : World) (hW : Below w.heap.size w W) => ref14_ref xp v l q W (later hW c0) (hslc.below hW) (h.ok.below hW)
  have HCK := Lib.hid hck
  have HREF := Lib.hid href
  have HSame := Lib.hid (fun (n : Int) (w' : World) (r' : Int × List Ky) (e : Ending) => RTurnPost.same (n := n) (w' := w') (r := r') (e := e) h hX)
  have HOk := Lib.hid h.ok
  have HH := Lib.hid h
  have HX := Lib.hid hX
  have HS := Lib.hid hS
  have HRec := Lib.hid hrec
  have HRk := Lib.hid hrk
  have HP := Lib.hid hp
  have hrp : ∀ x ∈ l, x.pts.length ≤ 65536 := fun x hx => (rightP_rising (hrk.right x.key (List.mem_map_of_mem hx))).2
  have HRp := Lib.hid hrp
  obtain ⟨A, c, rfl, q1, q2, q3, q4, q5⟩ := hslc
  have HRd := Lib.hid q5
  obtain ⟨A1, c1, rfl, -⟩ := hl
  obtain ⟨A2, c2, rfl, -, -, -, -, p5⟩ := hp
  have HRe := Lib.hid p5
  rw [h2] at HCK ⊢
  obtain ⟨rk, rr, rlab, pts⟩ := r
  simp only at *
  obtain ⟨n, hnn⟩ : ∃ n, n = l.length := ⟨_, rfl⟩
  have Hn := Lib.hid hnn
  rw [← hnn] at c0 hn
  obtain ⟨m, hmm⟩ : ∃ m, m = pts.length := ⟨_, rfl⟩
  have Hm := Lib.hid hmm
  rw [← hmm] at h256 HCK ⊢
  generalize rlab.length = n1 at *
  have HB0 : Hid (Below w.heap.size w (w.alloc (.cells #[.int .i64 2, .int .u32 rr, .slice A1 n1 c1, .slice A2 m c2] 45))) := Lib.hid (balloc (Below.refl _ _) _)
  generalize recR (l.map Sr.key) ⟨rk, rr, rlab, pts⟩ = res at *
  have C0 := Lib.hid c0
  clear h hX hrk hz h00 h1 hck hS hrec c0 href hrp q1 q2 q3 q4 q5 p5 hnn hmm h2
  go_enter Tryz.func44, Tryz.ntmps44
  go_wp2_with fail
  refine (HCK.out _ HB0.out).mono ?_
  rintro e w1 ⟨rfl, hB1⟩
  obtain ⟨d0, d1, d2, d3, hB, _⟩ := new4 hB1
  have HB1 := Lib.hid hB
  have D3 := Lib.hid d3
  clear hB1 hB d1 d2
  go_wp2_with fail
  go_loopw [76] (fun i wr => ∃ k : Nat, k ≤ m ∧ i = .int .i64 k ∧ AnyTo (lostK (l.map Sr.key)) pts k ∧ Below w1.heap.size w1 wr) (fun i _ => m - (intOf i).toNat)
  case atStart => exact ⟨0, Nat.zero_le _, rfl, AnyTo.start _ _, Below.refl _ _⟩
  case round =>
    obtain ⟨k, hk, rfl, hE, hB⟩ := hrel
    have HBr := Lib.hid hB
    have HBB := Lib.hid (bthen HB1.out hB)
    by_cases hlt : k < m
    · have hkl : k < pts.length := by rw [← Hm.out]; exact hlt
      obtain ⟨b, off, rfl, z0, z1, z2, z3⟩ := rdE_at (Rd.below HRe.out HBB.out) hkl
      have hRd := hE.round hkl
      rw [lost_find] at hRd
      generalize pts[k] = x at *
      obtain ⟨xr, ⟨xT, xV, xS⟩⟩ := x
      simp only at z0 z1 z2 z3 hRd
      have HBw : Hid (Below wr.heap.size wr (wr.alloc (.cells #[.int .u32 xr, .int .i64 xT, .int .u64 xV, .int .u64 xS] 100))) := Lib.hid (balloc (Below.refl _ _) _)
      have hcall := HREF.out xr _ (bthen HBB.out HBw.out)
      clear hE hB d0 d3
      rcases hRd with ⟨g1, g2⟩ | ⟨g1, g2⟩
      · have hres : res = (101, l.map Sr.key) := by rw [HRec.out, if_pos g2]
        have HRes := Lib.hid hres
        have hfn : l.findIdx? (refB xr) = none := by cases hq : l.findIdx? (refB xr) with
          | none => rfl
          | some i => rw [hq] at g1; cases g1
        rw [hfn] at hcall
        have HCall := Lib.hid hcall
        clear g1 g2 hres hfn hcall
        go_wp2_with fail
        refine HCall.out.mono ?_
        rintro e w2 ⟨rfl, hb⟩
        have HB2 := Lib.hid (bthen (bthen HBB.out HBw.out) hb)
        clear hb
        simp only [ixF]
        go_wp2_with fail
        go_ret
        exact HSame.out _ _ _ _ HB2.out HRes.out rfl
      · obtain ⟨i, hfi⟩ : ∃ i, l.findIdx? (refB xr) = some i := by cases hq : l.findIdx? (refB xr) with
          | none => rw [hq] at g1; cases g1
          | some i => exact ⟨i, rfl⟩
        rw [hfi] at hcall
        have HCall := Lib.hid hcall
        have G2 := Lib.hid g2
        clear g1 g2 hfi hcall
        go_wp2_with fail
        refine HCall.out.mono ?_
        rintro e w2 ⟨rfl, hb⟩
        have HB2 := Lib.hid (bthen HBw.out hb)
        clear hb
        simp only [ixF]
        have hi0 : decide ((i : Int) < 0) = false := by simp
        go_wp2_with fail
        go_roundw
        case rel => exact ⟨k + 1, by omega, by go_num, G2.out, bthen HBr.out HB2.out⟩
        case measure => simp [intOf] <;> omega
    · have hl0 := hE.done (by rw [← Hm.out]; exact hlt)
      have hres := HRec.out
      rw [if_neg (by simp [hl0])] at hres
      have HRes := Lib.hid hres
      have HL0 := Lib.hid hl0
      have D31 := Lib.hid (later hB D3.out)
      have cx := later HBB.out C0.out
      clear hE hB hres hl0 HRec d0 d3
      go_wp2_with fail
      generalize wr = wa at *
      go_loopw [91] (fun i wr => ∃ k : Nat, k ≤ n ∧ i = .int .i64 k ∧ AnyTo (muchS pts) l k ∧ Below wa.heap.size wa wr) (fun i _ => n - (intOf i).toNat)
      case atStart => exact ⟨0, Nat.zero_le _, rfl, AnyTo.start _ _, Below.refl _ _⟩
      case round =>
        obtain ⟨i, hi, rfl, hE, hB⟩ := hrel
        have HE := Lib.hid hE
        have HBc := Lib.hid hB
        have HBw2 := Lib.hid (bthen HBB.out hB)
        have D32 := Lib.hid (later hB D31.out)
        have cx2 := later hB cx
        by_cases hlt : i < n
        · have hil : i < l.length := by rw [← Hn.out]; exact hlt
          obtain ⟨b, off, rfl, z0, z1, z2⟩ := rdSr_at (Rd.below HRd.out HBw2.out) hil
          have hx := HOk.out _ (List.getElem_mem hil)
          have h65 := HRp.out _ (List.getElem_mem hil)
          have hRd := hE.round hil
          have hmu : muchS pts l[i] = decide (65536 < l[i].pts.length + cntF (pts.map En.ref) l[i].ref) := rfl
          generalize l[i] = z at *
          obtain ⟨zr, zlv, zlab, zpv, zpts⟩ := z
          simp only at z0 z1 z2 hx h65 hRd hmu
          obtain ⟨⟨A4, c4, rfl, -⟩, ⟨A5, c5, rfl, -⟩⟩ := hx
          generalize zpts.length = n5 at *
          generalize zlab.length = n4 at *
          have HMu := Lib.hid hmu
          have HRdd := Lib.hid hRd
          have HBv : Hid (Below wr.heap.size wr (wr.alloc (.cells #[.int .u32 zr, .slice A4 n4 c4, .slice A5 n5 c5] 66))) := Lib.hid (balloc (Below.refl _ _) _)
          have v0 : (wr.alloc (.cells #[.int .u32 zr, .slice A4 n4 c4, .slice A5 n5 c5] 66)).cell? ⟨wr.heap.size, 0, none⟩ = some (.int .u32 zr) := by simp
          have d33 := later HBv.out D32.out
          have V0 := Lib.hid v0
          have CX := Lib.hid (later HBv.out cx2)
          have Z2 := Lib.hid (later HBv.out z2)
          clear hE hB hRd hmu v0
          go_wp2_with fail
          generalize wr.alloc (.cells #[.int .u32 zr, .slice A4 n4 c4, .slice A5 n5 c5] 66) = Wv at *
          clear z0 z1 z2 cx cx2
          go_loopw [12, 99] (fun s i wr => ∃ j : Nat, j ≤ m ∧ i = .int .i64 j ∧ s = .int .i64 (cntF ((pts.take j).map En.ref) zr) ∧ Below Wv.heap.size Wv wr) (fun _ i _ => m - (intOf i).toNat)
          case atStart => exact ⟨0, Nat.zero_le _, rfl, by simp [cntF], Below.refl _ _⟩
          case round =>
            obtain ⟨j, hj, rfl, rfl, hB2⟩ := hrel
            have HB2 := Lib.hid hB2
            have HBx := Lib.hid (bthen (bthen HBw2.out HBv.out) hB2)
            have vz := later hB2 V0.out
            have hcl := cnt_le pts zr j
            by_cases hjt : j < m
            · have hjl : j < pts.length := by rw [← Hm.out]; exact hjt
              obtain ⟨b2, off2, rfl, y0, y1, y2, y3⟩ := rdE_at (Rd.below HRe.out HBx.out) hjl
              have hct := cnt_take pts zr j hjl
              generalize pts[j] = x at *
              obtain ⟨xr, ⟨xT, xV, xS⟩⟩ := x
              simp only at y0 y1 y2 y3 hct
              have HBu : Hid (Below wr.heap.size wr (wr.alloc (.cells #[.int .u32 xr, .int .i64 xT, .int .u64 xV, .int .u64 xS] 100))) := Lib.hid (balloc (Below.refl _ _) _)
              have vz2 := later HBu.out vz
              clear hB2 d33
              by_cases hxz : xr = zr
              · have hq : (xr == zr) = true := by simpa using hxz
                rw [if_pos hxz] at hct
                have HCt := Lib.hid hct
                clear hct hxz
                generalize cntF ((pts.take j).map En.ref) zr = cn at *
                go_wp2_with fail
                go_roundw
                case rel => exact ⟨j + 1, by omega, by go_num, by rw [HCt.out]; go_num, bthen HB2.out HBu.out⟩
                case measure => simp [intOf] <;> omega
              · have hq : (xr == zr) = false := by simpa using hxz
                rw [if_neg hxz, Nat.add_zero] at hct
                have HCt := Lib.hid hct
                clear hct hxz
                generalize cntF ((pts.take j).map En.ref) zr = cn at *
                go_wp2_with fail
                go_roundw
                case rel => exact ⟨j + 1, by omega, by go_num, by rw [HCt.out]; simp, bthen HB2.out HBu.out⟩
                case measure => simp [intOf] <;> omega
            · have hkk : pts.take j = pts := List.take_of_length_le (by rw [← Hm.out]; omega)
              rw [hkk] at hcl ⊢
              have ck := later hB2 CX.out
              have zk := later hB2 Z2.out
              have hsub : IntKind.i64.wrap (65536 - (n5 : Int)) = 65536 - (n5 : Int) := i64_small (by omega) (by omega)
              clear hB2 d33 hkk vz
              rcases HRdd.out with ⟨g1, g2⟩ | ⟨g1, g2⟩
              · have hres : res = (5, l.map Sr.key) := by rw [HRes.out, if_pos g2]
                have HRes := Lib.hid hres
                rw [HMu.out] at g1
                have hgt : decide ((65536 : Int) - (n5 : Int) < (cntF (pts.map En.ref) zr : Int)) = true := by simp at g1; simp; omega
                clear g1 g2 hres
                generalize cntF (pts.map En.ref) zr = cn at *
                go_wp2_with fail
                go_ret
                exact HSame.out _ _ _ _ HBx.out HRes.out rfl
              · rw [HMu.out] at g1
                have hgt : decide ((65536 : Int) - (n5 : Int) < (cntF (pts.map En.ref) zr : Int)) = false := by simp at g1; simp; omega
                have G2 := Lib.hid g2
                clear g1 g2
                generalize cntF (pts.map En.ref) zr = cn at *
                go_wp2_with fail
                go_roundw
                case rel => exact ⟨i + 1, by omega, by go_num, G2.out, bthen HBc.out (bthen HBv.out HB2.out)⟩
                case measure => simp [intOf] <;> omega
        · have hm0 := hE.done (by rw [← Hn.out]; exact hlt)
          have hres := HRes.out
          rw [if_neg (by simp [hm0])] at hres
          have HRes := Lib.hid hres
          have d33 := D32.out
          have HR0 : Hid (PutsTo wr X xp (.slice A n c) (l.map Sr.key) pts 0 wr) := Lib.hid ⟨⟨l, by rw [Hn.out]; exact HH.out.below HBw2.out, rfl⟩, HRk.out, Apart.refl _ _⟩
          clear hE hB hm0 hres cx cx2
          go_wp2_with fail
          generalize wr = wb at *
          go_loopw [127] (fun i wr => ∃ k : Nat, k ≤ m ∧ i = .int .i64 k ∧ PutsTo wb X xp (.slice A n c) (l.map Sr.key) pts k wr) (fun i _ => m - (intOf i).toNat)
          case atStart => exact ⟨0, Nat.zero_le _, rfl, HR0.out⟩
          case round =>
            obtain ⟨k, hk, rfl, hE⟩ := hrel
            have HE := Lib.hid hE
            obtain ⟨ls, hat, hls⟩ := hE.ex
            have HAt := Lib.hid hat
            have HLs := Lib.hid hls
            by_cases hlt : k < m
            · have hkl : k < pts.length := by rw [← Hm.out]; exact hlt
              have hfk := foldl_take putK (l.map Sr.key) pts k hkl
              have hpv : Slc 4 En.enc wr (fun k => k ∉ X) (.slice A2 pts.length c2) pts := (HP.out.below HBw2.out).move hE.apart.size (fun k hk hD => hE.apart.block k hk (fun hb => hD (HH.out.sub k (by rw [Hn.out] at hb; exact hb))))
              obtain ⟨A', c', eA, -, -, -, -, hRdp⟩ := hpv
              cases eA
              obtain ⟨b2, off2, rfl, y0, y1, y2, y3⟩ := rdE_at hRdp hkl
              have hxs := HS.out _ (List.getElem_mem hkl)
              have hxl : (l.map Sr.key).any (fun y => decide (y.1 = pts[k].ref)) = true := by
                have := List.any_eq_false.1 HL0.out _ (List.getElem_mem hkl)
                unfold lostK at this
                simpa using this
              rw [← any_fst (puts_fst (pts.take k) (l.map Sr.key)), ← hls] at hxl
              obtain ⟨i, hi, hfi, hir⟩ := find_some hxl
              have hlsn : ls.length = n := by
                have h9 := congrArg List.length (puts_fst (pts.take k) (l.map Sr.key))
                rw [← hls] at h9
                simp only [List.length_map] at h9
                rw [h9, Hn.out]
              have hin : i < n := by omega
              have hrp5 : rightP ls[i].pts = true := hE.rk.right ls[i].key (by rw [← hls]; exact List.mem_map_of_mem (List.getElem_mem hi))
              have hsl := hat.slc
              have hok := hat.ok
              obtain ⟨B5, ho⟩ := hat.own
              have hflat := flat_get sr_len ls i 2 hi (by omega)
              rw [hlsn] at ho
              obtain ⟨g, cap, eg, -, -⟩ := ho.form (by omega)
              cases eg
              have hcellp : wr.cell? ⟨g, i * 3 + 2, none⟩ = some ls[i].pv := by rw [ho.cellAt (i * 3 + 2) (by omega), hflat]; rfl
              obtain ⟨-, ⟨A5, c5, e5, -⟩⟩ := hok _ (List.getElem_mem hi)
              have hspv := (hok _ (List.getElem_mem hi)).2
              rw [e5] at hcellp hspv
              have hput := fun (W : World) (hW : Below wr.heap.size wr W) => ref09_put (.slice A5 ls[i].pts.length c5) ls[i].pts pts[k].p W (hspv.below hW) hxs hrp5
              have cx := blk_cell hat.hc 0
              simp at cx
              have hrefk := fun (W : World) (hW : Below wr.heap.size wr W) => ref14_ref xp _ ls pts[k].ref W (later hW cx) (hsl.below hW) (hok.below hW)
              rw [hfi] at hrefk
              have Hfk := Lib.hid hfk
              have Hir := Lib.hid hir
              have Hi := Lib.hid hi
              have HFz := Lib.hid (fun (w3 : World) (hb : Below wr.heap.size wr w3) => (own_below ho hb).frozenAt (i * 3 + 2))
              unfold RPut at hput
              generalize hx5 : pts[k] = x at *
              obtain ⟨xr, ⟨xT, xV, xS⟩⟩ := x
              simp only at y0 y1 y2 y3 hput hrefk
              have HPut := Lib.hid hput
              have HRefk := Lib.hid hrefk
              generalize hn5 : ls[i].pts.length = n5 at *
              have HBv : Hid (Below wr.heap.size wr (wr.alloc (.cells #[.int .u32 xr, .int .i64 xT, .int .u64 xV, .int .u64 xS] 100))) := Lib.hid (balloc (Below.refl _ _) _)
              have v1 : (wr.alloc (.cells #[.int .u32 xr, .int .i64 xT, .int .u64 xV, .int .u64 xS] 100)).cell? ⟨wr.heap.size, 1, none⟩ = some (.int .i64 xT) := by simp
              have v2 : (wr.alloc (.cells #[.int .u32 xr, .int .i64 xT, .int .u64 xV, .int .u64 xS] 100)).cell? ⟨wr.heap.size, 2, none⟩ = some (.int .u64 xV) := by simp
              have v3 : (wr.alloc (.cells #[.int .u32 xr, .int .i64 xT, .int .u64 xV, .int .u64 xS] 100)).cell? ⟨wr.heap.size, 3, none⟩ = some (.int .u64 xS) := by simp
              have hcx2 := later HBv.out cx
              have hcp2 := later HBv.out hcellp
              clear hE hat hls hfk hRdp hxs hxl hfi hir hlsn hrp5 hsl hok ho hflat hcellp hspv hput cx hrefk e5 hx5 hn5
              have Hsz : Hid (w.heap.size ≤ wr.heap.size) := Lib.hid (Nat.le_trans HBw2.out.size HE.out.apart.size)
              go_wp2_with fail
              refine (HRefk.out _ HBv.out).mono ?_
              rintro e w2 ⟨rfl, hb2⟩
              simp only [ixF]
              have HB2 := Lib.hid (bthen HBv.out hb2)
              have f0 : w2.drew.cell? ⟨xp, 0, none⟩ = some (.slice (some ⟨g, 0, none⟩) n c) := later hb2 hcx2
              have f1 : w2.drew.cell? ⟨g, i * 3 + 2, none⟩ = some (.slice A5 n5 c5) := later hb2 hcp2
              have f2 : w2.drew.cell? ⟨wr.heap.size, 1, none⟩ = some (.int .i64 xT) := later hb2 v1
              have f3 : w2.drew.cell? ⟨wr.heap.size, 2, none⟩ = some (.int .u64 xV) := later hb2 v2
              have f4 : w2.drew.cell? ⟨wr.heap.size, 3, none⟩ = some (.int .u64 xS) := later hb2 v3
              have hi0 : (0 : Int) ≤ (i : Int) := by omega
              have hi1 : (i : Int) < (n : Int) := by omega
              clear hb2 hcx2 hcp2 v1 v2 v3 y0 y1 y2 y3 d33
              go_wp2_with fail
              go_region_held3 (fun w' => w'.cell? ⟨xp, 0, none⟩ = some (.slice (some ⟨g, 0, none⟩) n c) ∧ w'.cell? ⟨g, i * 3 + 2, none⟩ = some (.slice A5 n5 c5) ∧ w'.cell? ⟨wr.heap.size, 1, none⟩ = some (.int .i64 xT) ∧ w'.cell? ⟨wr.heap.size, 2, none⟩ = some (.int .u64 xV) ∧ w'.cell? ⟨wr.heap.size, 3, none⟩ = some (.int .u64 xS)) (first | exact ⟨f0, f1, f2, f3, f4⟩ | exact ⟨later hb' f0, later hb' f1, later hb' f2, later hb' f3, later hb' f4⟩)
                (first | (go_at_call 45; refine (HPut.out _ (bthen HB2.out (bdrew (Below.refl _ _)))).mono ?_; rintro e w' ⟨vn, a, b, rfl, hvn, hb'⟩; obtain ⟨An, cn, rfl, -⟩ := id hvn; have HVn := Lib.hid hvn; clear hvn))
              have HB3 := Lib.hid (bthen HB2.out (bthen (bdrew (Below.refl _ _)) hb'))
              have cx3 := later hb' f0
              have cp3 := later hb' f1
              have fz := HFz.out _ HB3.out
              have HFin := Lib.hid (puts_next (x := ⟨xr, ⟨xT, xV, xS⟩⟩) (HAt.out.below HB3.out) HLs.out HE.out.rk (HE.out.apart.then HB3.out) (fun k hk => Nat.lt_of_lt_of_le (HX.out k hk) (Nat.le_trans Hsz.out HB2.out.size)) Hi.out Hir.out HVn.out Hfk.out)
              clear f0 f1 f2 f3 f4 hb'
              go_wp2_with fail
              go_roundw
              case rel => exact ⟨k + 1, by omega, by go_num, HFin.out⟩
              case measure => simp [intOf] <;> omega
            · have hkk : pts.take k = pts := List.take_of_length_le (by rw [← Hm.out]; omega)
              have hfin : RTurnPost w X xp (.slice A l.length c) res (.returned (.int .i64 0)) wr := by
                rw [HRes.out, ← Hn.out]
                refine ⟨rfl, X, .slice A n c, ⟨⟨ls, hat, ?_⟩, MoreX.refl _ _, fun k hk => ?_, (below_apart HBw2.out _).trans hE.apart (fun _ _ h => h), .inl rfl⟩⟩
                · rw [hls, hkk]
                · exact Nat.lt_of_lt_of_le (HX.out k hk) (Nat.le_trans HBw2.out.size hE.apart.size)
              have HFin := Lib.hid hfin
              clear hkk hfin hE hat hls
              go_wp2_with fail
              go_ret
              exact HFin.out
/-- WHAT THE DOCUMENT's Record ANSWERS -/
theorem ref14_record {X : List Nat} {xp : Nat} {v : Value} {l : List Sr} (r : Rec) (lv pv : Value) (w : World) (h : RfAt w X xp v l) (hX : ∀ k ∈ X, k < w.heap.size) (hn : l.length ≤ 4096) (hrk : RK (l.map Sr.key)) (hl : SlL w (fun k => k ∉ X) lv r.lab) (hp : SlE w (fun k => k ∉ X) pv r.pts) (hz : SzL r.lab) :
    Calls Tryz.prog 44 #[.pointer (some ⟨xp, 0, none⟩), .agg #[.int .i64 r.kind, .int .u32 r.ref, lv, pv]] w (RTurnPost w X xp v (recR (l.map Sr.key) r)) := by
  by_cases h0 : checkF r = 0
  · by_cases h1 : r.kind = 1
    · exact ref14_record1 r lv pv w h hX hn hrk.rise hl hp hz (.inr h1)
    · exact ref14_record2 r lv pv w h hX hn hrk hl hp hz h0 h1
  · exact ref14_record1 r lv pv w h hX hn hrk.rise hl hp hz (.inl h0)
end Go.Proofs.YtbjglcdoekbloaaGreatDoor
