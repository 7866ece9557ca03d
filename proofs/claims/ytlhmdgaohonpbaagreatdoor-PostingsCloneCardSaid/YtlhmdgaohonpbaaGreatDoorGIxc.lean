import Derived.Test.YtlhmdgaohonpbaaGreatDoorGIx
import Derived.Test.YtlhmdgaohonpbaaGreatDoorGPi
set_option linter.unusedSimpArgs false
set_option linter.unusedVariables false
set_option linter.unusedSectionVars false
namespace Go.Proofs.YtlhmdgaohonpbaaGreatDoor
open Go.RowKit Go.Proofs.YtlhmdgaohonpbaaGreatDoor.MapRaw Go.ChangeMaps
theorem mdel_at {κ ν ν' : Type} [DecidableEq κ] : ∀ (m : List (κ × ν)) (m' : List (κ × ν')) (a : κ), m.map (·.1) = m'.map (·.1) → (mdel m a).map (·.1) = (mdel m' a).map (·.1) ∧ ∀ (i : Nat) (p : κ × ν) (q : κ × ν'), (mdel m a)[i]? = some p → (mdel m' a)[i]? = some q → ∃ j : Nat, m[j]? = some p ∧ m'[j]? = some q
 | [], [], _, _ => ⟨rfl, fun i p q h _ => by simp [mdel] at h⟩
 | [], _ :: _, _, h => by simp at h
 | _ :: _, [], _, h => by simp at h
 | p :: r, q :: t, a, h => by
  simp only [List.map_cons, List.cons.injEq] at h
  unfold mdel
  rw [← h.1]
  by_cases e : p.1 = a
  ·rw [if_pos e, if_pos e]
   exact ⟨h.2, fun i x y hx hy => ⟨i + 1, by simpa using hx, by simpa using hy⟩⟩
  ·rw [if_neg e, if_neg e]
   obtain ⟨h1, h2⟩ := mdel_at r t a h.2
   refine ⟨by simp [h.1, h1], fun i x y hx hy => ?_⟩
   cases i with
   | zero => exact ⟨0, by simpa using hx, by simpa using hy⟩
   | succ i =>
    obtain ⟨j, g1, g2⟩ := h2 i x y (by simpa using hx) (by simpa using hy)
    exact ⟨j + 1, by simpa using g1, by simpa using g2⟩
theorem mdel_vals {κ ν : Type} [DecidableEq κ] : ∀ (m : List (κ × ν)) (a : κ), ((mdel m a).map (·.2)).Sublist (m.map (·.2))
 | [], _ => by simp [mdel]
 | p :: r, a => by
  unfold mdel
  by_cases e : p.1 = a
  ·rw [if_pos e]; simp
  ·rw [if_neg e]
   simp only [List.map_cons]
   exact (mdel_vals r a).cons_cons _
theorem HasAt.drop {W W' : World} {hb : Nat} {H : HasL} {inner : List ((ByteArray × ByteArray) × Nat)} (h : HasAt W hb H inner) {a : ByteArray × ByteArray} {es : Array MapEntry} {c : Nat} (hM : IsMap ekPair evM es c (mdel inner a)) (ho : W'.heap[hb]? = some (.map es c)) (hk : ∀ k ∈ inner.map (·.2), W'.heap[k]? = W.heap[k]?) : HasAt W' hb (mdel H a) (mdel inner a) := by
 obtain ⟨h1, h2⟩ := mdel_at inner H a h.keys
 refine ⟨⟨es, c, ho, hM⟩, h1, fun i p q hp hq => ?_⟩
 obtain ⟨j, g1, g2⟩ := h2 i p q hp hq
 exact (h.at_ j p q g1 g2).move (hk _ (List.mem_map_of_mem (f := (·.2)) (List.mem_of_getElem? g1))) (fun _ _ _ hv => hv)
section
variable {W : World} {X : List Nat} {xb : Nat} {I : Ix} {ab rb hb : Nat} {inner : List ((ByteArray × ByteArray) × Nat)}
theorem ix_setAll (h : IxAt W X xb I ab rb hb inner) (hX : xb ∉ X) {m : List (Int × List Lb)} {es : Array MapEntry} {c : Nat} (hM : IsMap eU (evL W X) es c m) : IxAt (setBlock W ab (.map es c)) X xb ⟨m, I.refs, I.has⟩ ab rb hb inner := by
 obtain ⟨h1, h2, h3, h4, h5, h6, h7, h8⟩ := h.hbX
 have hlt := h.lt
 have keep : ∀ k, k ≠ ab → (setBlock W ab (.map es c)).heap[k]? = W.heap[k]? := fun k hne => setBlock_ne hne _
 refine ⟨?_, ⟨es, c, setBlock_at (hlt _ h2) _, hM.imp fun p _ v hv => hv.move (by rw [setBlock_size]; exact Nat.le_refl _) (fun k hk hkX => keep k (fun e => hkX (e ▸ h2))) (fun _ _ h => h)⟩, h.refs.move (keep rb (Ne.symm h6)) (fun _ _ _ hv => hv), h.has.move (keep hb h4) (fun k hk => keep k (h7 k hk).2.1), h.sub, h.nd, fun k hk => by rw [setBlock_size]; exact hlt k hk⟩
 rw [keep xb (fun e => hX (e ▸ h2))]; exact h.cells
theorem ix_setRefs (h : IxAt W X xb I ab rb hb inner) (hX : xb ∉ X) {m : List (ByteArray × Int)} {es : Array MapEntry} {c : Nat} (hM : IsMap eS evI es c m) : IxAt (setBlock W rb (.map es c)) X xb ⟨I.all, m, I.has⟩ ab rb hb inner := by
 obtain ⟨h1, h2, h3, h4, h5, h6, h7, h8⟩ := h.hbX
 have hlt := h.lt
 have keep : ∀ k, k ≠ rb → (setBlock W rb (.map es c)).heap[k]? = W.heap[k]? := fun k hne => setBlock_ne hne _
 refine ⟨?_, h.all.move (keep ab h6) (fun p _ v hv => hv.move (by rw [setBlock_size]; exact Nat.le_refl _) (fun k hk hkX => keep k (fun e => hkX (e ▸ h3))) (fun _ _ h => h)), ⟨es, c, setBlock_at (hlt _ h3) _, hM⟩, h.has.move (keep hb h5) (fun k hk => keep k (h7 k hk).2.2.1), h.sub, h.nd, fun k hk => by rw [setBlock_size]; exact hlt k hk⟩
 rw [keep xb (fun e => hX (e ▸ h3))]; exact h.cells
theorem ix_drop (h : IxAt W X xb I ab rb hb inner) (hX : xb ∉ X) {a : ByteArray × ByteArray} {es : Array MapEntry} {c : Nat} (hM : IsMap ekPair evM es c (mdel inner a)) : IxAt (setBlock W hb (.map es c)) X xb ⟨I.all, I.refs, mdel I.has a⟩ ab rb hb (mdel inner a) := by
 obtain ⟨h1, h2, h3, h4, h5, h6, h7, h8⟩ := h.hbX
 have hlt := h.lt
 have keep : ∀ k, k ≠ hb → (setBlock W hb (.map es c)).heap[k]? = W.heap[k]? := fun k hne => setBlock_ne hne _
 have hs := mdel_vals inner a
 refine ⟨?_, h.all.move (keep ab (Ne.symm h4)) (fun p _ v hv => hv.move (by rw [setBlock_size]; exact Nat.le_refl _) (fun k hk hkX => keep k (fun e => hkX (e ▸ h1))) (fun _ _ h => h)), h.refs.move (keep rb (Ne.symm h5)) (fun _ _ _ hv => hv), h.has.drop hM (setBlock_at (hlt _ h1) _) (fun k hk => keep k (h7 k hk).2.2.2), fun k hk => h.sub k ?_, ?_, fun k hk => by rw [setBlock_size]; exact hlt k hk⟩
 ·rw [keep xb (fun e => hX (e ▸ h1))]; exact h.cells
 ·rcases List.mem_append.1 hk with hk | hk
  ·exact List.mem_append_left _ hk
  ·exact List.mem_append_right _ (hs.subset hk)
 ·exact h.nd.sublist (List.Sublist.append_left hs _)
end
theorem run_delete_none {P : Program} {κ : Type} [DecidableEq κ] {ek : κ → Value} {t kt et : TypeId} {okk : κ → Prop} (K : KeyK P kt κ ek okk) (ht : P.underlying t = some (.map kt et)) (w : World) {a : κ} (ha : okk a) (t2 ty : TypeId) :
  (Builtin.delete_ #[t, t2] ty #[.map none, ek a]).run P w = .ok (.tuple #[]) w := by
 unfold Builtin.delete_
 simp only [Sem.run_bind, List.getElem?_toArray, List.getElem?_cons_zero, List.getElem?_cons_succ, run_underlying ht, Result.andThen_ok, K.check _ _ _ ha, Sem.run_pure]
theorem delete_all {P : Program} {κ ν : Type} [DecidableEq κ] {ek : κ → Value} {ev : ν → Value → Prop} {t kt et : TypeId} {okk : κ → Prop} (K : KeyK P kt κ ek okk) (ht : P.underlying t = some (.map kt et)) (b : Nat) {es : Array MapEntry} {clock : Nat} {m : List (κ × ν)} (h : IsMap ek ev es clock m) {a : κ} (ha : okk a) (hm : ∀ p ∈ m, okk p.1) :
  ∃ es', IsMap ek ev es' clock (mdel m a) ∧ ∀ (t2 ty : TypeId) (W : World), W.heap[b]? = some (.map es clock) → (Builtin.delete_ #[t, t2] ty #[.map (some b), ek a]).run P W = .ok (.tuple #[]) (setBlock W b (.map es' clock)) := by
 rcases h.find_all K ha hm with ⟨h1, h2⟩ | ⟨i, e, y, h1, h3, hk, h4, h5, _⟩
 ·refine ⟨es, by rw [mdel_none h2]; exact h, fun t2 ty W hb => ?_⟩
  unfold Builtin.delete_
  simp only [Sem.run_bind, List.getElem?_toArray, List.getElem?_cons_zero, List.getElem?_cons_succ, run_underlying ht, Result.andThen_ok, MapKept.run_getObj_map hb, K.check _ _ _ ha, h1, MapKept.run_setObj_map _ hb, Sem.run_pure]
  rfl
 ·refine ⟨_, h.erase h5, fun t2 ty W hb => ?_⟩
  unfold Builtin.delete_
  simp only [Sem.run_bind, List.getElem?_toArray, List.getElem?_cons_zero, List.getElem?_cons_succ, run_underlying ht, Result.andThen_ok, MapKept.run_getObj_map hb, K.check _ _ _ ha, h1, MapKept.run_setObj_map _ hb, Sem.run_pure]
  rfl
theorem run_len_none {P : Program} {t kt et ty : TypeId} (ht : P.underlying t = some (.map kt et)) (w : World) : (Builtin.len_ #[t] ty #[.map none]).run P w = .ok (.int .i64 0) w := by
 unfold Builtin.len_
 simp only [Sem.run_bind, List.getElem?_toArray, List.getElem?_cons_zero, run_underlying ht, Result.andThen_ok, Sem.run_pure]
 rfl
theorem mdel_put {κ ν : Type} [DecidableEq κ] : ∀ (m : List (κ × ν)) (a : κ) (x : ν), mdel (mput m a x) a = mdel m a
 | [], a, x => by simp [mput, mdel]
 | p :: r, a, x => by
  unfold mput
  by_cases e : p.1 = a
  ·rw [if_pos e, mdel, if_pos rfl, mdel, if_pos e]
  ·rw [if_neg e, mdel, if_neg e, mdel, if_neg e, mdel_put r a x]
theorem in_del {w : World} {b : Nat} {m : List (Int × Int)} (h : MapAt w eU evN b m) (ref : Int) :
  ∃ es c es', w.heap[b]? = some (.map es c) ∧ IsMap eU evN es' c (mdel m ref) ∧ ∀ (t2 ty : TypeId) (W : World), W.heap[b]? = some (.map es c) → (Builtin.delete_ #[85, t2] ty #[.map (some b), .int .u64 ref]).run Tryz.prog W = .ok (.tuple #[]) (setBlock W b (.map es' c)) := by
 obtain ⟨es, c, ho, hM⟩ := h
 obtain ⟨es', h1, h2⟩ := delete_all keyU Tryz.underlying85 b hM (a := ref) trivial (fun _ _ => trivial)
 exact ⟨es, c, es', ho, h1, h2⟩
theorem out_del {es : Array MapEntry} {c hb : Nat} {inner : List ((ByteArray × ByteArray) × Nat)} (hM : IsMap ekPair evM es c inner) (a : ByteArray × ByteArray) :
  ∃ es', IsMap ekPair evM es' c (mdel inner a) ∧ ∀ (t2 ty : TypeId) (W : World), W.heap[hb]? = some (.map es c) → (Builtin.delete_ #[73, t2] ty #[.map (some hb), .agg #[.string a.1, .string a.2]]).run Tryz.prog W = .ok (.tuple #[]) (setBlock W hb (.map es' c)) :=
 delete_all keyP Tryz.underlying73 hb hM (a := a) trivial (fun _ _ => trivial)
theorem hasCut_step (H : HasL) (ref : Int) (l : List Lb) (k : Nat) (hk : k < l.length) : hasCut H ref (l.take (k + 1)) = hasDrop (hasCut H ref (l.take k)) ref l[k] := by
 unfold hasCut
 rw [List.take_succ_eq_append_getElem hk, List.foldl_append]; rfl
structure CutRel (w4 : World) (X : List Nat) (xb : Nat) (I : Ix) (ab rb hb : Nat) (inner : List ((ByteArray × ByteArray) × Nat)) (ref : Int) (l : List Lb) (k : Nat) (inner' : List ((ByteArray × ByteArray) × Nat)) (w' : World) : Prop where
 ix : IxAt w' X xb ⟨I.all, I.refs, hasCut I.has ref (l.take k)⟩ ab rb hb inner'
 sub : ∀ j ∈ inner'.map (·.2), j ∈ inner.map (·.2)
 apart : Apart (fun j => j = hb ∨ j ∈ inner.map (·.2)) w4 w'
def CutPost (w : World) (X : List Nat) (xb : Nat) (I : Ix) (ab rb hb : Nat) (inner : List ((ByteArray × ByteArray) × Nat)) (ref : Int) (e : Ending) (w' : World) : Prop :=
 e = .returned (.int .i64 (if (mget I.all ref).isSome = true then 0 else 101)) ∧ ∃ inner', IxAt w' X xb (cutI I ref) ab rb hb inner' ∧ (∀ j ∈ inner'.map (·.2), j ∈ inner.map (·.2)) ∧ Apart (fun k => k ∈ [ab, rb, hb] ++ inner.map (·.2)) w w'
end Go.Proofs.YtlhmdgaohonpbaaGreatDoor

namespace Go.Proofs.YtlhmdgaohonpbaaGreatDoor
open Go.RowKit Go.Proofs.YtlhmdgaohonpbaaGreatDoor.MapRaw Go.ChangeMaps
set_option maxRecDepth 100000 in
set_option maxHeartbeats 400000 in
theorem ix_cut_none {X : List Nat} {xb : Nat} {I : Ix} {ab rb hb : Nat} {inner : List ((ByteArray × ByteArray) × Nat)} (ref : Int) (w : World) (h : IxAt w X xb I ab rb hb inner) (hn : mget I.all ref = none) :
  Calls Tryz.prog 40 #[.pointer (some ⟨xb, 0, none⟩), .int .u64 ref] w fun e w' => e = .returned (.int .i64 101) ∧ Below w.heap.size w w' := by
 have c0 := blk_cell h.cells 0
 have c1 := blk_cell h.cells 1
 simp at c0 c1
 obtain ⟨es, c, hb1, hM⟩ := h.all
 obtain ⟨v, hv1, hv2, hv3, hv4⟩ := lookup_all keyU Tryz.underlying71 zeroLabels ab hM (a := ref) trivial (fun _ _ => trivial)
 have hrun := hv1 w hb1
 rw [hn] at hrun
 simp only [Option.isSome_none] at hrun
 unfold eU at hrun
 clear hv1 hv2 hv3 hv4 hM h hb1 hn
 go_enter Tryz.func40, Tryz.ntmps40
 go_wp2_with fail
 refine (ix_is _ _ c0).mono ?_
 rintro e w' ⟨rfl, rfl⟩
 go_wp2_with fail
 go_ret
 exact ⟨rfl, Below.refl _ _⟩
set_option maxRecDepth 100000 in
set_option maxHeartbeats 8000000 in
theorem ix_cut_some {X : List Nat} {xb : Nat} {I : Ix} {ab rb hb : Nat} {inner : List ((ByteArray × ByteArray) × Nat)} (ref : Int) (l : List Lb) (w : World) (h : IxAt w X xb I ab rb hb inner) (hX : xb ∉ X) (hl : mget I.all ref = some l) (hr : rightF l = 0) :
  Calls Tryz.prog 40 #[.pointer (some ⟨xb, 0, none⟩), .int .u64 ref] w (CutPost w X xb I ab rb hb inner ref) := by
 have hcut : cutI I ref = ⟨mdel I.all ref, mdel I.refs (printF l), hasCut I.has ref l⟩ := by unfold cutI; rw [hl]
 unfold CutPost
 rw [hcut, hl]
 simp only [Option.isSome_some, if_true]
 have c0 := blk_cell h.cells 0
 have c1 := blk_cell h.cells 1
 have c2 := blk_cell h.cells 2
 simp at c0 c1 c2
 obtain ⟨ea, ca, ha, hMA⟩ := h.all
 obtain ⟨er, cr, hrr, hMR⟩ := h.refs
 obtain ⟨v, hv1, hv2, hv3, hv4⟩ := lookup_all keyU Tryz.underlying71 zeroLabels ab hMA (a := ref) trivial (fun _ _ => trivial)
 have hrun := hv1 w ha
 rw [hl] at hrun
 simp only [Option.isSome_some] at hrun
 have hev := hv4 l hl
 obtain ⟨ea2, hMA2, hda⟩ := delete_all keyU Tryz.underlying71 ab hMA (a := ref) trivial (fun _ _ => trivial)
 obtain ⟨er2, hMR2, hdr⟩ := delete_all keyS Tryz.underlying72 rb hMR (a := printF l) trivial (fun _ _ => trivial)
 unfold eU at hrun hda
 unfold eS at hdr
 have hda1 := fun (t2 ty : TypeId) => hda t2 ty w ha
 obtain ⟨q1, q2, q3, q4, q5, q6, q7, q8⟩ := h.hbX
 -- behind the two deletes
 have hI1 := ix_setAll h hX hMA2
 have hA1 : Apart (fun k => k = ab) w (setBlock w ab (.map ea2 ca)) := (Apart.refl (fun k => k = ab) w).setB ab (.inl rfl) _
 have hS1 : SlL (setBlock w ab (.map ea2 ca)) (fun k => k ∉ X) v l := hev.1.move hA1.size (fun k hk hkX => hA1.block k hk (fun e => hkX (by rw [e]; exact q2)))
 have hr1 : (setBlock w ab (.map ea2 ca)).heap[rb]? = some (.map er cr) := by rw [setBlock_ne (Ne.symm q6)]; exact hrr
 have hxr : xb ≠ rb := fun e => hX (e ▸ q3)
 have d2 : (setBlock w ab (.map ea2 ca)).cell? ⟨xb, 2, none⟩ = some (.map (some rb)) := cell_setBlock (g := xb) (b := ab) (fun e => hX (by rw [e]; exact q2)) c2
 have HI1 := Lib.hid hI1
 have HA1 := Lib.hid hA1
 have HS1 := Lib.hid hS1
 have HR1 := Lib.hid hr1
 have H16 := Lib.hid (right_ok hr).1
 have HMR2 := Lib.hid hMR2
 have HQ := Lib.hid (And.intro q2 (And.intro q3 q1))
 have HND := Lib.hid h.nd
 obtain ⟨A', c', e0, -⟩ := id hev.1
 subst e0
 have hP : ∀ W : World, Below (setBlock w ab (.map ea2 ca)).heap.size (setBlock w ab (.map ea2 ca)) W → Calls Tryz.prog 43 #[.slice A' l.length c'] W fun e w' => e = .returned (.string (printF l)) ∧ Below W.heap.size W w' := fun W hW => by
  obtain ⟨A1, c1, e1, p1, p2, p3, p4, p5⟩ := hS1
  cases e1
  exact labels_print _ _ l W (RdL.below p5 hW) (right_short hr)
 have HP := Lib.hid hP
 obtain ⟨n, hn⟩ : ∃ n, n = l.length := ⟨_, rfl⟩
 have Hn := Lib.hid hn
 rw [← hn] at hrun HP HS1
 have hn9 : n ≤ 16 := by rw [hn]; exact H16.out
 clear hn hv1 hv2 hv3 hv4 hMA hMR hMA2 hMR2 hI1 hA1 hS1 hev hP ha hrr h hl hr hcut hda hr1 q1 q2 q3 q4 q5 q6 q7 q8 H16
 go_enter Tryz.func40, Tryz.ntmps40
 go_wp2_with fail
 refine (ix_is _ _ c0).mono ?_
 rintro e w' ⟨rfl, rfl⟩
 go_wp2_with fail
 clear hda1 hrun c0 c1 c2
 generalize setBlock w ab (.map ea2 ca) = W1 at *
 have e2 : W1.drew.cell? ⟨xb, 2, none⟩ = some (.map (some rb)) := d2
 have er1 : W1.drew.heap[rb]? = some (.map er cr) := HR1.out
 clear d2
 go_region_held3 (fun w' => w'.cell? ⟨xb, 2, none⟩ = some (.map (some rb))) (first | exact e2 | exact later hb' e2 | exact cell_setBlock hxr (later hb' e2))
  (first | (go_at_call 43; refine (HP.out _ (bdrew (Below.refl _ _))).mono ?_; rintro e w' ⟨rfl, hb'⟩; have hdl := fun (t2 ty : TypeId) => hdr t2 ty w' (blk_below er1 hb')))
 have hbw : Below W1.heap.size W1 w' := bthen (bdrew (Below.refl _ _)) hb'
 have hI4 := ix_setRefs (HI1.out.below hbw) hX HMR2.out
 have hA4 : Apart (fun k => k = ab ∨ k = rb) w (setBlock w' rb (.map er2 cr)) := ((HA1.out.mono (Q := fun k => k = ab ∨ k = rb) (fun _ _ h => .inl h)).then hbw).setB rb (.inl (.inr rfl)) _
 have hS4 : SlL (setBlock w' rb (.map er2 cr)) (fun k => k ∉ X) (.slice A' n c') l := (HS1.out.below hbw).move (by rw [setBlock_size]; exact Nat.le_refl _) (fun k hk hkX => setBlock_ne (fun e => hkX (by rw [e]; exact HQ.out.2.1)) _)
 have HI4 := Lib.hid hI4
 have HA4 := Lib.hid hA4
 have HS4 := Lib.hid hS4
 clear hI4 hA4 hS4 hdl hdr hb' hbw e2 er1 HP HS1 HR1 HI1 HA1 HMR2
 generalize setBlock w' rb (.map er2 cr) = w4 at *
 go_wp2_with fail
 go_loopw [37] (fun i wr => ∃ (k : Nat) (inner' : List ((ByteArray × ByteArray) × Nat)), k ≤ n ∧ i = .int .i64 k ∧ CutRel w4 X xb ⟨mdel I.all ref, mdel I.refs (printF l), I.has⟩ ab rb hb inner ref l k inner' wr) (fun i _ => n - (intOf i).toNat)
 case atStart => exact ⟨0, inner, Nat.zero_le _, rfl, ⟨by simpa [hasCut] using HI4.out, fun _ h => h, Apart.refl _ _⟩⟩
 case round =>
  obtain ⟨k, inner', hk, rfl, hE⟩ := hrel
  by_cases hlt : k < n
  ·have hkl : k < l.length := by rw [← Hn.out]; exact hlt
   have hSr : SlL wr (fun k => k ∉ X) (.slice A' n c') l := Slc.move HS4.out hE.apart.size (fun k hk hkX => hE.apart.block k hk (by
    obtain ⟨z1, _, _, _, _, _, z2, _⟩ := HI4.out.hbX
    rintro (rfl | e)
    ·exact hkX z1
    ·exact hkX (z2 k e).1))
   obtain ⟨A1, c1, e, _, _, _, _, hr1⟩ := hSr
   cases e
   obtain ⟨b, off, rfl, p0, p1⟩ := RdL.at_ hr1 hkl
   have HST := Lib.hid (hasCut_step I.has ref l k hkl)
   generalize l[k] = y at *
   have q3 := blk_cell hE.ix.cells 3
   simp at q3
   obtain ⟨es, c, ho, hMo, hlo⟩ := has_look hE.ix.has (y.n, y.v)
   obtain ⟨eo, hMo2, hdo⟩ := out_del (hb := hb) hMo (y.n, y.v)
   have HE := Lib.hid hE
   have HMo2 := Lib.hid hMo2
   have n0 : wr.heap.size + 1 ≠ hb := by have := (hE.ix.lt hb hE.ix.hbX.1); omega
   have n3 : xb ≠ hb := fun e => hX (e ▸ HQ.out.2.2)
   have hcx : xb < wr.heap.size := (Array.getElem?_eq_some_iff.1 hE.ix.cells).1
   clear hE hMo hr1 hMo2
   have hbW : Below wr.heap.size wr ((wr.alloc (.cells #[.string y.n, .string y.v] 80)).alloc (.cells #[.string y.n, .string y.v] 84)) := balloc (balloc (Below.refl _ _) _) _
   have z0 : ((wr.alloc (.cells #[.string y.n, .string y.v] 80)).alloc (.cells #[.string y.n, .string y.v] 84)).cell? ⟨wr.heap.size + 1, 0, none⟩ = some (.string y.n) := by simp
   have z1 : ((wr.alloc (.cells #[.string y.n, .string y.v] 80)).alloc (.cells #[.string y.n, .string y.v] 84)).cell? ⟨wr.heap.size + 1, 1, none⟩ = some (.string y.v) := by simp
   cases hg : mget inner' (y.n, y.v) with
   | none =>
    rw [hg] at hlo
    have HG := Lib.hid hg
    have hdn := fun (t2 ty : TypeId) (W : World) => run_delete_none (P := Tryz.prog) keyU Tryz.underlying85 W (a := ref) trivial t2 ty
    have hln := fun (ty : TypeId) (W : World) => run_len_none (P := Tryz.prog) (ty := ty) Tryz.underlying85 W
    unfold eU at hdn
    go_wp2_with fail
    generalize ((wr.alloc (.cells #[.string y.n, .string y.v] 80)).alloc (.cells #[.string y.n, .string y.v] 84)) = W at *
    have q3b := later hbW q3
    have hob := blk_below ho hbW
    have y0 : W.drew.cell? ⟨wr.heap.size + 1, 0, none⟩ = some (.string y.n) := z0
    have y1 : W.drew.cell? ⟨wr.heap.size + 1, 1, none⟩ = some (.string y.v) := z1
    have y3 : W.drew.cell? ⟨xb, 3, none⟩ = some (.map (some hb)) := q3b
    have yo : W.drew.heap[hb]? = some (.map es c) := hob
    have hlo1 := hlo W.drew yo
    go_region_held3 (fun w' => w'.cell? ⟨wr.heap.size + 1, 0, none⟩ = some (.string y.n) ∧ w'.cell? ⟨wr.heap.size + 1, 1, none⟩ = some (.string y.v) ∧ w'.cell? ⟨xb, 3, none⟩ = some (.map (some hb))) (exact ⟨y0, y1, y3⟩) (fail)
    have HB1 : Hid (Below wr.heap.size wr W.drew) := Lib.hid (bdrew hbW)
    clear z0 z1 q3b hob hbW hlo1
    generalize W.drew = W1 at *
    have x0 : W1.drew.cell? ⟨wr.heap.size + 1, 0, none⟩ = some (.string y.n) := y0
    have x1 : W1.drew.cell? ⟨wr.heap.size + 1, 1, none⟩ = some (.string y.v) := y1
    have x3 : W1.drew.cell? ⟨xb, 3, none⟩ = some (.map (some hb)) := y3
    have hlo2 := hlo W1.drew yo
    go_wp2_with fail
    go_region_held3 (fun w' => w'.cell? ⟨wr.heap.size + 1, 0, none⟩ = some (.string y.n) ∧ w'.cell? ⟨wr.heap.size + 1, 1, none⟩ = some (.string y.v) ∧ w'.cell? ⟨xb, 3, none⟩ = some (.map (some hb))) (exact ⟨x0, x1, x3⟩) (fail)
    have HB2 : Hid (Below wr.heap.size wr W1.drew) := Lib.hid (bdrew HB1.out)
    have yo2 : W1.drew.heap[hb]? = some (.map es c) := yo
    clear y0 y1 y3 yo hlo2
    generalize W1.drew = W2 at *
    have u0 : W2.drew.cell? ⟨wr.heap.size + 1, 0, none⟩ = some (.string y.n) := x0
    have u1 : W2.drew.cell? ⟨wr.heap.size + 1, 1, none⟩ = some (.string y.v) := x1
    have u3 : W2.drew.cell? ⟨xb, 3, none⟩ = some (.map (some hb)) := x3
    have hdl := fun (t2 ty : TypeId) => hdo t2 ty W2.drew yo2
    have s0 := cell_setBlock n0 (o := .map eo c) u0
    have s1 := cell_setBlock n0 (o := .map eo c) u1
    have s3 := cell_setBlock n3 (o := .map eo c) u3
    go_wp2_with fail
    go_region_held3 (fun w' => w'.cell? ⟨wr.heap.size + 1, 0, none⟩ = some (.string y.n) ∧ w'.cell? ⟨wr.heap.size + 1, 1, none⟩ = some (.string y.v) ∧ w'.cell? ⟨xb, 3, none⟩ = some (.map (some hb))) (first | exact ⟨u0, u1, u3⟩ | exact ⟨s0, s1, s3⟩) (fail)
    have hR : CutRel w4 X xb ⟨mdel I.all ref, mdel I.refs (printF l), I.has⟩ ab rb hb inner ref l (k + 1) (mdel inner' (y.n, y.v)) (setBlock W2.drew hb (.map eo c)) := by
     refine ⟨?_, fun j hj => HE.out.sub j ((mdel_vals _ _).subset hj), ((HE.out.apart.then (bdrew HB2.out)).setB hb (.inl (.inl rfl)) _)⟩
     have h1 := ix_drop (HE.out.ix.below (bdrew HB2.out)) hX (HMo2.out)
     rw [HST.out]
     unfold hasDrop
     have hg0 : mget (hasCut I.has ref (l.take k)) (y.n, y.v) = none := by
      rcases keys_get _ _ (y.n, y.v) HE.out.ix.has.keys with ⟨_, h⟩ | ⟨_, _, _, h, _⟩
      ·exact h
      ·rw [HG.out] at h; cases h
     rw [hg0, if_pos (show mdel ((none : Option (List (Int × Int))).getD []) ref = [] from rfl)]
     exact h1
    have HR := Lib.hid hR
    clear hR hdl hdo hdn hln hlo s0 s1 s3 u0 u1 u3 x0 x1 x3 yo2
    generalize setBlock W2.drew hb (.map eo c) = W3 at *
    go_wp2_with fail
    go_roundw
    case rel => exact ⟨k + 1, _, by omega, by go_num, HR.out⟩
    case measure => simp [intOf] <;> omega
   | some b2 =>
    rw [hg] at hlo
    have HG := Lib.hid hg
    obtain ⟨e4, c4, e5, ho4, hM5, hu5⟩ := in_del (has_inner HE.out.ix.has hg) ref
    have HM5 := Lib.hid hM5
    have hb2m := HE.out.ix.hbX.2.2.2.2.2.2.1 b2 (List.mem_map_of_mem (f := (·.2)) (mget_mem hg))
    have hb2l := HE.out.ix.lt b2 hb2m.1
    have n1 : wr.heap.size + 1 ≠ b2 := by omega
    have n2 : xb ≠ b2 := fun e => hX (by rw [e]; exact hb2m.1)
    have n4 : hb ≠ b2 := Ne.symm hb2m.2.2.2
    have HB2m : Hid (b2 ∈ inner.map (·.2)) := Lib.hid (HE.out.sub b2 (List.mem_map_of_mem (f := (·.2)) (mget_mem hg)))
    clear hM5 hb2m hb2l
    go_wp2_with fail
    generalize ((wr.alloc (.cells #[.string y.n, .string y.v] 80)).alloc (.cells #[.string y.n, .string y.v] 84)) = W at *
    have q3b := later hbW q3
    have hob := blk_below ho hbW
    have hob4 := blk_below ho4 hbW
    have y0 : W.drew.cell? ⟨wr.heap.size + 1, 0, none⟩ = some (.string y.n) := z0
    have y1 : W.drew.cell? ⟨wr.heap.size + 1, 1, none⟩ = some (.string y.v) := z1
    have y3 : W.drew.cell? ⟨xb, 3, none⟩ = some (.map (some hb)) := q3b
    have yo : W.drew.heap[hb]? = some (.map es c) := hob
    have hlo1 := hlo W.drew yo
    have hdl := fun (t2 ty : TypeId) => hu5 t2 ty W.drew hob4
    have s0 := cell_setBlock n1 (o := .map e5 c4) y0
    have s1 := cell_setBlock n1 (o := .map e5 c4) y1
    have s3 := cell_setBlock n2 (o := .map e5 c4) y3
    go_region_held3 (fun w' => w'.cell? ⟨wr.heap.size + 1, 0, none⟩ = some (.string y.n) ∧ w'.cell? ⟨wr.heap.size + 1, 1, none⟩ = some (.string y.v) ∧ w'.cell? ⟨xb, 3, none⟩ = some (.map (some hb))) (first | exact ⟨y0, y1, y3⟩ | exact ⟨s0, s1, s3⟩) (fail)
    have hso : (setBlock W.drew b2 (.map e5 c4)).heap[hb]? = some (.map es c) := (setBlock_ne n4 _).trans yo
    have hs4 : (setBlock W.drew b2 (.map e5 c4)).heap[b2]? = some (.map e5 c4) := setBlock_at (Array.getElem?_eq_some_iff.1 hob4).1 _
    have HI1 : Hid (IxAt (setBlock W.drew b2 (.map e5 c4)) X xb ⟨mdel I.all ref, mdel I.refs (printF l), mput (hasCut I.has ref (l.take k)) (y.n, y.v) (mdel ((mget (hasCut I.has ref (l.take k)) (y.n, y.v)).getD []) ref)⟩ ab rb hb inner') := Lib.hid (ix_turn (HE.out.ix.below (bdrew hbW)) hX HG.out HM5.out)
    have HA5 : Hid (Apart (fun j => j = hb ∨ j ∈ inner.map (·.2)) w4 (setBlock W.drew b2 (.map e5 c4))) := Lib.hid ((HE.out.apart.then (bdrew hbW)).setB b2 (.inl (.inr HB2m.out)) _)
    have hws : wr.heap.size ≤ (setBlock W.drew b2 (.map e5 c4)).heap.size := by rw [setBlock_size]; exact (bdrew hbW).size
    clear y0 y1 y3 yo hlo1 hdl z0 z1 q3b hob hob4 hbW
    generalize setBlock W.drew b2 (.map e5 c4) = W1 at *
    have x0 : W1.drew.cell? ⟨wr.heap.size + 1, 0, none⟩ = some (.string y.n) := s0
    have x1 : W1.drew.cell? ⟨wr.heap.size + 1, 1, none⟩ = some (.string y.v) := s1
    have x3 : W1.drew.cell? ⟨xb, 3, none⟩ = some (.map (some hb)) := s3
    have hlo2 := hlo W1.drew hso
    have hln := fun (ty : TypeId) (W : World) (hW : W.heap[b2]? = some (.map e5 c4)) => run_len (P := Tryz.prog) (ty := ty) Tryz.underlying85 (w := W) (b := b2) hW HM5.out
    have hs5 : W1.drew.heap[b2]? = some (.map e5 c4) := hs4
    have HI2 : Hid (IxAt W1.drew X xb ⟨mdel I.all ref, mdel I.refs (printF l), mput (hasCut I.has ref (l.take k)) (y.n, y.v) (mdel ((mget (hasCut I.has ref (l.take k)) (y.n, y.v)).getD []) ref)⟩ ab rb hb inner') := Lib.hid (HI1.out.below (bdrew (Below.refl _ _)))
    have HA6 : Hid (Apart (fun j => j = hb ∨ j ∈ inner.map (·.2)) w4 W1.drew) := Lib.hid HA5.out.drew
    have HD : Hid (hasDrop (hasCut I.has ref (l.take k)) ref y = if mdel ((mget (hasCut I.has ref (l.take k)) (y.n, y.v)).getD []) ref = [] then mdel (hasCut I.has ref (l.take k)) (y.n, y.v) else mput (hasCut I.has ref (l.take k)) (y.n, y.v) (mdel ((mget (hasCut I.has ref (l.take k)) (y.n, y.v)).getD []) ref)) := Lib.hid rfl
    generalize mdel ((mget (hasCut I.has ref (l.take k)) (y.n, y.v)).getD []) ref = md at *
    go_wp2_with fail
    by_cases hz : md = []
    ·have hzl : md.length = 0 := by rw [hz]; rfl
     have hzi : ((md.length : Int) == 0) = true := by rw [hzl]; rfl
     have Hz := Lib.hid hz
     clear hz
     go_region_held3 (fun w' => w'.cell? ⟨wr.heap.size + 1, 0, none⟩ = some (.string y.n) ∧ w'.cell? ⟨wr.heap.size + 1, 1, none⟩ = some (.string y.v) ∧ w'.cell? ⟨xb, 3, none⟩ = some (.map (some hb)) ∧ w'.heap[b2]? = some (.map e5 c4)) (exact ⟨x0, x1, x3, hs5⟩) (fail)
     have yo2 : W1.drew.heap[hb]? = some (.map es c) := hso
     clear hlo2 hln s0 s1 s3 hso hs4 hs5
     generalize W1.drew = W2 at *
     have u0 : W2.drew.cell? ⟨wr.heap.size + 1, 0, none⟩ = some (.string y.n) := x0
     have u1 : W2.drew.cell? ⟨wr.heap.size + 1, 1, none⟩ = some (.string y.v) := x1
     have u3 : W2.drew.cell? ⟨xb, 3, none⟩ = some (.map (some hb)) := x3
     have hdl := fun (t2 ty : TypeId) => hdo t2 ty W2.drew yo2
     have s0 := cell_setBlock n0 (o := .map eo c) u0
     have s1 := cell_setBlock n0 (o := .map eo c) u1
     have s3 := cell_setBlock n3 (o := .map eo c) u3
     go_wp2_with fail
     go_region_held3 (fun w' => w'.cell? ⟨wr.heap.size + 1, 0, none⟩ = some (.string y.n) ∧ w'.cell? ⟨wr.heap.size + 1, 1, none⟩ = some (.string y.v) ∧ w'.cell? ⟨xb, 3, none⟩ = some (.map (some hb))) (first | exact ⟨u0, u1, u3⟩ | exact ⟨s0, s1, s3⟩) (fail)
     have hR : CutRel w4 X xb ⟨mdel I.all ref, mdel I.refs (printF l), I.has⟩ ab rb hb inner ref l (k + 1) (mdel inner' (y.n, y.v)) (setBlock W2.drew hb (.map eo c)) := by
      refine ⟨?_, fun j hj => HE.out.sub j ((mdel_vals _ _).subset hj), HA6.out.drew.setB hb (.inl (.inl rfl)) _⟩
      have h1 := ix_drop (HI2.out.below (bdrew (Below.refl _ _))) hX HMo2.out
      rw [HST.out, HD.out, if_pos Hz.out]
      simp only [mdel_put] at h1
      exact h1
     have HR := Lib.hid hR
     clear hR hdl hdo hlo s0 s1 s3 u0 u1 u3 x0 x1 x3 yo2
     generalize setBlock W2.drew hb (.map eo c) = W3 at *
     go_wp2_with fail
     go_roundw
     case rel => exact ⟨k + 1, _, by omega, by go_num, HR.out⟩
     case measure => simp [intOf] <;> omega
    ·have hzl : ¬ md.length = 0 := fun e => hz (List.eq_nil_of_length_eq_zero e)
     have hzi : ((md.length : Int) == 0) = false := by simp; exact hz
     have Hz := Lib.hid hz
     clear hz hzl
     generalize md.length = ml at *
     go_region_held3 (fun w' => w'.cell? ⟨wr.heap.size + 1, 0, none⟩ = some (.string y.n) ∧ w'.cell? ⟨wr.heap.size + 1, 1, none⟩ = some (.string y.v) ∧ w'.cell? ⟨xb, 3, none⟩ = some (.map (some hb)) ∧ w'.heap[b2]? = some (.map e5 c4)) (exact ⟨x0, x1, x3, hs5⟩) (fail)
     have hR : CutRel w4 X xb ⟨mdel I.all ref, mdel I.refs (printF l), I.has⟩ ab rb hb inner ref l (k + 1) inner' W1.drew := by
      refine ⟨?_, HE.out.sub, HA6.out⟩
      have h1 := HI2.out
      rw [HST.out, HD.out, if_neg Hz.out]
      exact h1
     have HR := Lib.hid hR
     clear hR hdo hlo s0 s1 s3 x0 x1 x3 hso hs4 hlo2 hln hs5
     generalize W1.drew = W3 at *
     go_wp2_with fail
     go_roundw
     case rel => exact ⟨k + 1, _, by omega, by go_num, HR.out⟩
     case measure => simp [intOf] <;> omega
  ·have htk : l.take k = l := List.take_of_length_le (by rw [← Hn.out]; omega)
   have HE := Lib.hid hE
   clear hE
   go_wp2_with fail
   go_ret
   have h1 := HE.out.ix
   rw [htk] at h1
   refine ⟨rfl, inner', h1, HE.out.sub, (HA4.out.mono fun i _ h => ?_).trans HE.out.apart fun i _ h => ?_⟩
   ·rcases h with rfl | rfl <;> simp
   ·rcases h with rfl | h
    ·simp
    ·exact List.mem_append_right [ab, rb, hb] h
theorem ix_cut {X : List Nat} {xb : Nat} {I : Ix} {ab rb hb : Nat} {inner : List ((ByteArray × ByteArray) × Nat)} (ref : Int) (w : World) (h : IxAt w X xb I ab rb hb inner) (hX : xb ∉ X) (hok : IxOk I) :
  Calls Tryz.prog 40 #[.pointer (some ⟨xb, 0, none⟩), .int .u64 ref] w (CutPost w X xb I ab rb hb inner ref) := by
 cases hl : mget I.all ref with
 | none =>
  refine (ix_cut_none ref w h hl).mono ?_
  rintro e w' ⟨rfl, hb⟩
  refine ⟨by rw [hl]; rfl, inner, ?_, fun _ h => h, below_apart hb _⟩
  have : cutI I ref = I := by unfold cutI; rw [hl]
  rw [this]
  exact h.below hb
 | some l => exact ix_cut_some ref l w h hX hl (hok.right ref l hl)
end Go.Proofs.YtlhmdgaohonpbaaGreatDoor
