import Derived.Test.YtlhmdgaohonpbaaGreatDoorGRxG
set_option linter.unusedSimpArgs false
set_option linter.unusedVariables false
set_option linter.unusedSectionVars false
/- package rex: where a part's matches end (plain); a copy of bools. -/
namespace Go.Proofs.YtlhmdgaohonpbaaGreatDoor
open Go.RowKit Go.Proofs.YtlhmdgaohonpbaaGreatDoor.MapRaw Go.ChangeMaps

def loopF (f : List Bool → List Bool) : Nat → List Bool → List Bool
  | 0, out => out
  | n + 1, out => if moreB out (f out) = true then loopF f n (joinB out (f out)) else joinB out (f out)
def onceF (f : List Bool → List Bool) (sign : Int) (fr : List Bool) : List Bool := if sign ≠ 43 then joinB (f fr) fr else f fr
def oftenF (f : List Bool → List Bool) (sign : Int) (fr : List Bool) : List Bool := if sign = 63 then onceF f sign fr else loopF f (fr.length + 1) (onceF f sign fr)
def oneF (set : List Sp) (but : Bool) (l : List Int) (fr : List Bool) : List Bool := false :: List.zipWith (fun f c => f && hasF set but c) fr l
/-- where a part's matches may end that begin at some places -/
def endsF : Nat → Part → List Int → List Bool → List Bool
  | 0, _, _, fr => fr
  | h + 1, .mk kind set but _ parts sign, l, fr =>
    if kind = 0 then oneF set but l fr
    else if kind = 1 then parts.foldl (fun fr x => endsF h x l fr) fr
    else if kind = 2 then parts.foldl (fun out x => joinB out (endsF h x l fr)) (fr.map fun _ => false)
    else match parts with
      | [] => fr
      | x :: _ => oftenF (endsF h x l) sign fr
theorem one_len {set : List Sp} {but : Bool} {l : List Int} {fr : List Bool} (h : fr.length = l.length + 1) : (oneF set but l fr).length = fr.length := by
  unfold oneF; rw [List.length_cons, List.length_zipWith, h]; omega
theorem loop_len {f : List Bool → List Bool} {m : Nat} (hf : ∀ o, o.length = m → (f o).length = m) : ∀ (n : Nat) (o : List Bool), o.length = m → (loopF f n o).length = m
  | 0, _, h => h
  | n + 1, o, h => by
    have hj : (joinB o (f o)).length = m := by rw [join_len (by rw [hf o h, h]), h]
    unfold loopF
    split
    · exact loop_len hf n _ hj
    · exact hj
theorem once_len {f : List Bool → List Bool} {m : Nat} (hf : ∀ o, o.length = m → (f o).length = m) {sign : Int} {fr : List Bool} (h : fr.length = m) : (onceF f sign fr).length = m := by
  unfold onceF
  split
  · rw [join_len (by rw [hf fr h, h]), hf fr h]
  · exact hf fr h
theorem often_len {f : List Bool → List Bool} {m : Nat} (hf : ∀ o, o.length = m → (f o).length = m) {sign : Int} {fr : List Bool} (h : fr.length = m) : (oftenF f sign fr).length = m := by
  unfold oftenF
  split
  · exact once_len hf h
  · exact loop_len hf _ _ (once_len hf h)
theorem foldl_len {α : Type} {g : List Bool → α → List Bool} {m : Nat} (hg : ∀ o x, o.length = m → (g o x).length = m) : ∀ (xs : List α) (o : List Bool), o.length = m → (xs.foldl g o).length = m
  | [], _, h => h
  | x :: xs, o, h => by rw [List.foldl_cons]; exact foldl_len hg xs _ (hg o x h)
theorem ends_len : ∀ (h : Nat) (p : Part) (l : List Int) (fr : List Bool), fr.length = l.length + 1 → (endsF h p l fr).length = l.length + 1
  | 0, _, _, _, h => h
  | h + 1, .mk kind set but plain parts sign, l, fr, hl => by
    have ih := fun (x : Part) (o : List Bool) (ho : o.length = l.length + 1) => ends_len h x l o ho
    unfold endsF
    split
    · rw [one_len hl, hl]
    · split
      · exact foldl_len (fun o x ho => ih x o ho) _ _ hl
      · split
        · refine foldl_len (m := l.length + 1) (fun o x ho => ?_) _ _ (by rw [List.length_map, hl])
          rw [join_len (by rw [ih x fr hl, ho]), ho]
        · split
          · exact hl
          · exact often_len (fun o ho => ih _ o ho) hl
/-- how many places are not there -/
def falses (l : List Bool) : Nat := (l.filter fun b => !b).length
theorem join_cons (a b : Bool) (tt ll : List Bool) : joinB (a :: tt) (b :: ll) = (a || b) :: joinB tt ll := rfl
theorem more_cons (a b : Bool) (tt ll : List Bool) : moreB (a :: tt) (b :: ll) = ((b && !a) || moreB tt ll) := rfl
theorem join_same : ∀ (tt ll : List Bool), ll.length = tt.length → moreB tt ll = false → joinB tt ll = tt
  | [], _, _, _ => by simp [joinB]
  | a :: tt, [], h, _ => by simp at h
  | a :: tt, b :: ll, h, hm => by
    rw [more_cons] at hm
    simp only [Bool.or_eq_false_iff] at hm
    rw [join_cons, join_same tt ll (by simpa using h) hm.2]
    congr 1
    cases a <;> cases b <;> simp_all
theorem join_le : ∀ (tt ll : List Bool), falses (joinB tt ll) ≤ falses tt
  | [], _ => by simp [joinB, falses]
  | a :: tt, [] => by simp [joinB, falses]
  | a :: tt, b :: ll => by
    have := join_le tt ll
    rw [join_cons]
    unfold falses at *
    cases a <;> cases b <;> simp [List.filter_cons] <;> omega
theorem join_fewer : ∀ (tt ll : List Bool), moreB tt ll = true → falses (joinB tt ll) < falses tt
  | [], _, hm => by simp [moreB, newB] at hm
  | a :: tt, [], hm => by simp [moreB, newB] at hm
  | a :: tt, b :: ll, hm => by
    rw [more_cons] at hm
    have hle := join_le tt ll
    have ih := join_fewer tt ll
    rw [join_cons]
    unfold falses at *
    cases a <;> cases b <;> simp [List.filter_cons] at * <;> first | omega | (have := ih hm; omega)
theorem falses_le (l : List Bool) : falses l ≤ l.length := List.length_filter_le _ _
set_option maxRecDepth 100000 in
set_option maxHeartbeats 1000000 in
theorem bool_clone {D : Nat → Prop} (v : Value) (l : List Bool) (w : World) (hv : Slc 1 encB w D v l) (hpos : 0 < l.length) (hl : l.length ≤ 2000000) :
    Calls Tryz.prog 161 #[v] w fun e w' => ∃ g cap, e = .returned (.slice (some ⟨g, 0, none⟩) l.length cap) ∧ w'.ownsRow w.heap.size 4 1 (.slice (some ⟨g, 0, none⟩) l.length cap) l.length (l.map Value.bool) ∧ Below w.heap.size w w' := by
  have hsrc := hv.src b_len (fun x u hu => by simp [encB] at hu; subst hu; rfl) (by decide)
  obtain ⟨A, c, rfl, h1, h2, h3, h4, h5⟩ := hv
  obtain ⟨b, off, rfl, -⟩ := rd1 (f := Value.bool) h5 hpos
  have Hs := Lib.hid hsrc
  obtain ⟨n, hn⟩ : ∃ n, n = l.length := ⟨_, rfl⟩
  have Hn := Lib.hid hn
  rw [← hn] at hl hpos Hs ⊢
  have Hpos := Lib.hid hpos
  have ks := fun (W : World) => Lib.run_eql_slice_nil (P := Tryz.prog) W 175 4 (some ⟨b, off, none⟩) n c 0 0 Tryz.underlying175
  clear h1 h2 h3 h4 h5 hn hsrc
  go_enter Tryz.func161, Tryz.ntmps161
  go_wp2_with ((refine wpList_app (o := ⟨some 7, _, _, _, _, _⟩) (w0 := w) w.heap.size rfl _ _ 175 4 _ 1 1 n (l.flatMap encB) rfl Tryz.underlying175 info_bool rfl (by decide) (by decide) (.slice (some ⟨w.heap.size, 0, none⟩) 0 0) 0 [] rfl (Hs.out.below (balloc (Below.refl _ _) _)) (World.ownsRow_lit w #[] 0 (Nat.le_refl _) (by decide) rfl) (balloc (Below.refl _ _) _) (by simp) (by omega) ?_; intro v1 w5 hO hB5 hg5 hat5; simp only [Nat.zero_add, List.nil_append] at hO))
  rw [encB_map] at hO
  obtain ⟨g, cap, rfl⟩ : ∃ g cap, v1 = .slice (some ⟨g, 0, none⟩) n cap := by
    obtain ⟨-, ⟨-, h0⟩ | ⟨g, cap, _, e, -⟩⟩ := hO
    · have := Hpos.out; omega
    · exact ⟨g, cap, e⟩
  go_wp2_with fail
  go_ret
  exact ⟨g, cap, rfl, hO, hB5⟩
end Go.Proofs.YtlhmdgaohonpbaaGreatDoor

/- package rex: often. -/
namespace Go.Proofs.YtlhmdgaohonpbaaGreatDoor
open Go.RowKit Go.Proofs.YtlhmdgaohonpbaaGreatDoor.MapRaw Go.ChangeMaps

def EndsPost (w : World) (fv : Value) (fr res : List Bool) (e : Ending) (w' : World) : Prop := ∃ v, e = .returned v ∧ Below w.heap.size w w' ∧ ((v = fv ∧ res = fr) ∨ w'.ownsRow w.heap.size 4 1 v res.length (res.map Value.bool))
/-- what ends does at parts no higher than h -/
def EndsC (h : Nat) : Prop := ∀ (w : World) (D D1 D2 : Nat → Prop) (b : Nat) (p : Part) (lv fv : Value) (l : List Int) (fr : List Bool), PartAt w D h b p → Slc 1 encR w D1 lv l → Slc 1 encB w D2 fv fr → fr.length = l.length + 1 → l.length ≤ 1000000 → Calls Tryz.prog 139 #[.pointer (some ⟨b, 0, none⟩), lv, fv] w (EndsPost w fv fr (endsF h p l fr))
theorem own_b_slc {W : World} {base : Nat} {v : Value} {l : List Bool} (h : W.ownsRow base 4 1 v l.length (l.map Value.bool)) : Slc 1 encB W (fun k => base ≤ k) v l := by
  rw [← encB_map] at h
  exact own_slc (enc := encB) b_len rfl h
def isFv : Value → Bool
  | .bool false => true
  | _ => false
def RowM (g N : Nat) (w : World) : Nat := match w.heap[g]? with
  | some (.cells cs _ _) => ((cs.toList.take N).filter isFv).length
  | _ => 0
theorem RowM_at {W : World} {base g N cap : Nat} {e : TypeId} {o : List Bool} (h : W.ownsRow base e 1 (.slice (some ⟨g, 0, none⟩) N cap) N (o.map Value.bool)) : RowM g N W = falses o := by
  obtain ⟨h1, ⟨h0, -⟩ | ⟨g', cap', cur, e1, e2, e3, e4, e5, e6, e7⟩⟩ := h
  · cases h0
  · injection e1 with a1 a2 a3
    injection a1 with a1
    injection a1 with a1
    subst a1
    unfold RowM
    rw [e3]
    rw [Nat.mul_one] at e7
    simp only [e7]
    unfold falses
    rw [List.filter_map, List.length_map]
    congr 1
    refine List.filter_congr fun b _ => ?_
    cases b <;> rfl
set_option maxRecDepth 100000 in
set_option maxHeartbeats 4000000 in
theorem rex_often {h : Nat} (hE : EndsC h) {w : World} {D D1 D2 : Nat → Prop} {b : Nat} {kind sign : Int} {set : List Sp} {but plain : Bool} {x : Part} {rest : List Part} {lv fv : Value} {l : List Int} {fr : List Bool} (hp : PartAt w D (h + 1) b (.mk kind set but plain (x :: rest) sign)) (hl : Slc 1 encR w D1 lv l) (hf : Slc 1 encB w D2 fv fr) (hlen : fr.length = l.length + 1) (hl6 : l.length ≤ 1000000) :
    Calls Tryz.prog 152 #[.pointer (some ⟨b, 0, none⟩), lv, fv] w fun e w' => ∃ v, e = .returned v ∧ Below w.heap.size w w' ∧ w'.ownsRow w.heap.size 4 1 v (oftenF (endsF h x l) sign fr).length ((oftenF (endsF h x l) sign fr).map Value.bool) := by
  obtain ⟨-, -, sv, kv, ks, hblk, -, hk, hkl, hkids⟩ := hp
  obtain ⟨k0, ks', rfl⟩ : ∃ k0 ks', ks = k0 :: ks' := by
    cases ks with
    | nil => simp at hkl
    | cons a t => exact ⟨a, t, rfl⟩
  have hpx : PartAt w D h k0 x := hkids 0 k0 rfl x rfl
  have c4 := blk_cell hblk 4
  have c5 := blk_cell hblk 5
  simp at c4 c5
  obtain ⟨A, ck, rfl, -, -, -, -, hR⟩ := hk
  obtain ⟨kb, ko, rfl, ck0⟩ := rd1 (f := fun k => Value.pointer (some ⟨k, 0, none⟩)) hR (show 0 < (k0 :: ks').length by simp)
  simp at ck0
  have hlenF := fun (o : List Bool) (ho : o.length = fr.length) => (ends_len h x l o (by rw [ho, hlen])).trans hlen.symm
  have HLenF := Lib.hid hlenF
  have HEnds := Lib.hid fun (W : World) (hW : Below w.heap.size w W) (D3 : Nat → Prop) (fv' : Value) (fr' : List Bool) (hf' : Slc 1 encB W D3 fv' fr') (hl' : fr'.length = fr.length) => hE W D D1 D3 k0 x lv fv' l fr' (PartAt.move hW.size (fun j hj _ => hW.block j hj) (fun _ _ hd => hd) _ _ _ hpx) (hl.below hW) hf' (by rw [hl', hlen]) hl6
  generalize hfn : endsF h x l = f at *
  have HOf : Hid (oftenF f sign fr = if sign = 63 then onceF f sign fr else loopF f (fr.length + 1) (onceF f sign fr)) := Lib.hid rfl
  generalize oftenF f sign fr = res at *
  have hn6 : fr.length ≤ 1000001 := by omega
  have Hn6 := Lib.hid hn6
  have Hpos : Hid (0 < fr.length) := Lib.hid (by omega)
  have HF := Lib.hid (Slc.mono (D' := fun k => k < w.heap.size) hf (fun k hk _ => hk))
  have hks : (0 : Int) < ((k0 :: ks').length : Int) := by simp
  obtain ⟨A3, c3, rfl, -⟩ := hl
  generalize (k0 :: ks').length = nk at *
  generalize l.length = nl at *
  clear hkids hpx hf hlen hl6 hlenF hR hkl hfn hblk hn6
  go_enter Tryz.func152, Tryz.ntmps152
  go_wp2_with fail
  refine (HEnds.out w (Below.refl _ _) _ fv fr HF.out rfl).mono ?_
  rintro e w1 ⟨v1, rfl, hb1, hv1⟩
  have hs1 : Slc 1 encB w1 (fun _ => True) v1 (f fr) := by
    rcases hv1 with ⟨e1, e2⟩ | hv1
    · rw [e1, e2]; exact (HF.out.below hb1).mono (fun _ _ _ => trivial)
    · exact (own_b_slc hv1).mono (fun _ _ _ => trivial)
  have HS1 := Lib.hid hs1
  have HB1 := Lib.hid hb1
  clear hs1 hb1 hv1
  go_wp2_with fail
  have hf1 : (f fr).length = fr.length := HLenF.out fr rfl
  refine (bool_clone v1 (f fr) w1 HS1.out (by rw [hf1]; exact Hpos.out) (by have := Hn6.out; omega)).mono ?_
  rintro e w2 ⟨g, cap, rfl, hO2, hb2⟩
  rw [hf1] at hO2 ⊢
  have HO2 := Lib.hid hO2
  have HG : Hid (w1.heap.size ≤ g) := Lib.hid (ownsRow_blk hO2 g rfl).1
  have HB2 := Lib.hid (bthen HB1.out hb2)
  have d5 := later HB2.out c5
  have HC5 := Lib.hid c5
  have Hf1 := Lib.hid hf1
  clear hO2 hb2 c5 c4 ck0 hks hf1
  go_upto_if 26 with fail
  go_cut [] (fun wx => wx.ownsRow w1.heap.size 4 1 (.slice (some ⟨g, 0, none⟩) fr.length cap) fr.length ((onceF f sign fr).map Value.bool) ∧ Below w.heap.size w wx)
  case first =>
    by_cases s43 : sign = 43
    · have e43 : (sign != 43) = false := by simpa using s43
      have HFin : Hid (w2.ownsRow w1.heap.size 4 1 (.slice (some ⟨g, 0, none⟩) fr.length cap) fr.length ((onceF f sign fr).map Value.bool) ∧ Below w.heap.size w w2) := Lib.hid (by
        have : onceF f sign fr = f fr := by unfold onceF; rw [if_neg (by simp [s43])]
        rw [this]; exact ⟨HO2.out, HB2.out⟩)
      clear s43
      go_wp2_with fail
      go_meet
      exact HFin.out
    · have e43 : (sign != 43) = true := by simpa using s43
      have hon : onceF f sign fr = joinB (f fr) fr := by unfold onceF; rw [if_pos s43]
      have hj := rex_join (tv := .slice (some ⟨g, 0, none⟩) fr.length cap) (lv := fv) (tt := f fr) (ll := fr) (base := w1.heap.size) w2 (by rw [Hf1.out]; exact HO2.out) (HF.out.below HB2.out) Hf1.out.symm (by rw [Hf1.out]; exact Hpos.out) (.inl fun k hk e => by
        injection e with e
        have h1 := HG.out
        have h2 := HB1.out.size
        have h3 : g = k := e
        omega)
      have HJ := Lib.hid hj
      have HOn := Lib.hid hon
      clear s43 hj hon
      go_wp2_with fail
      refine HJ.out.mono ?_
      rintro e w3 ⟨rfl, hO3, hA3⟩
      have HFin : Hid (w3.ownsRow w1.heap.size 4 1 (.slice (some ⟨g, 0, none⟩) fr.length cap) fr.length ((onceF f sign fr).map Value.bool) ∧ Below w.heap.size w w3) := Lib.hid (by
        rw [HOn.out]
        rw [Hf1.out] at hO3
        refine ⟨hO3, ((below_apart HB2.out (fun k => w.heap.size ≤ k)).trans hA3 (fun i _ hi => ?_)).below (Nat.le_refl _) (fun k hk => by omega)⟩
        have h4 : g = i := by injection hi
        have h1 := HG.out
        have h2 := HB1.out.size
        omega)
      clear hO3 hA3
      go_wp2_with fail
      go_meet
      exact HFin.out
  case rest =>
    have HO3 := Lib.hid hcut.1
    have HB3 := Lib.hid hcut.2
    generalize wc = w3 at *
    have c5 := later HB3.out HC5.out
    have hol : (onceF f sign fr).length = fr.length := once_len (fun o ho => HLenF.out o ho) rfl
    have HOl := Lib.hid hol
    generalize onceF f sign fr = o0 at *
    clear hcut d5 hol
    by_cases s63 : sign = 63
    · have e63 : (sign == 63) = true := by simpa using s63
      have hr : res = o0 := by rw [HOf.out, if_pos s63]
      have HFin : Hid (w3.ownsRow w.heap.size 4 1 (.slice (some ⟨g, 0, none⟩) fr.length cap) res.length (res.map Value.bool)) := Lib.hid (by rw [hr, HOl.out]; exact own_shift HO3.out HB1.out.size)
      clear s63 hr
      go_wp2_with fail
      go_ret
      exact ⟨_, rfl, HB3.out, HFin.out⟩
    · have e63 : (sign == 63) = false := by simpa using s63
      have hr : loopF f (fr.length + 1) o0 = res := by rw [HOf.out, if_neg s63]
      have HR := Lib.hid hr
      clear s63 hr
      go_wp2_with fail
      go_loopw [] (fun wr => ∃ (n : Nat) (o : List Bool), wr.ownsRow w1.heap.size 4 1 (.slice (some ⟨g, 0, none⟩) fr.length cap) fr.length (o.map Value.bool) ∧ o.length = fr.length ∧ loopF f n o = res ∧ falses o < n ∧ Below w.heap.size w wr) (fun wr => RowM g fr.length wr)
      case atStart => exact ⟨fr.length + 1, o0, HO3.out, HOl.out, HR.out, by have := falses_le o0; rw [HOl.out] at this; omega, HB3.out⟩
      case round =>
        obtain ⟨n, o, hO, hol, hlp, hfa, hB⟩ := hrel
        cases n with
        | zero => omega
        | succ n =>
          have hfl : (f o).length = fr.length := HLenF.out o hol
          have hO' : wr.ownsRow w1.heap.size 4 1 (.slice (some ⟨g, 0, none⟩) fr.length cap) o.length (o.map Value.bool) := by rw [hol]; exact hO
          have hcall := HEnds.out wr hB _ (.slice (some ⟨g, 0, none⟩) fr.length cap) o (own_b_slc hO') hol
          have HCall := Lib.hid hcall
          have HOr := Lib.hid hO
          have HBr := Lib.hid hB
          have HLp := Lib.hid hlp
          have HFa := Lib.hid hfa
          have HOo := Lib.hid hol
          have HFl := Lib.hid hfl
          clear hO hol hlp hfa hB hfl hO' hcall
          go_wp2_with fail
          refine HCall.out.mono ?_
          rintro e w5 ⟨v5, rfl, hb5, hv5⟩
          have hO5 : w5.ownsRow w1.heap.size 4 1 (.slice (some ⟨g, 0, none⟩) fr.length cap) o.length (o.map Value.bool) := by rw [HOo.out]; exact own_below HOr.out hb5
          have hgl : g < wr.heap.size := (ownsRow_blk HOr.out g rfl).2
          have hj : Calls Tryz.prog 151 #[.slice (some ⟨g, 0, none⟩) fr.length cap, v5] w5 fun e w' => e = .returned (.bool (moreB o (f o))) ∧ w'.ownsRow w1.heap.size 4 1 (.slice (some ⟨g, 0, none⟩) fr.length cap) o.length ((joinB o (f o)).map Value.bool) ∧ Apart (fun k => (Value.slice (some ⟨g, 0, none⟩) fr.length cap).ownBlock = some k) w5 w' := by
            rcases hv5 with ⟨e1, e2⟩ | hv5
            · rw [e1, e2]
              refine rex_join w5 hO5 (own_b_slc hO5) rfl (by rw [HOo.out]; exact Hpos.out) (.inr ⟨rfl, rfl⟩)
            · exact rex_join w5 hO5 (own_b_slc hv5) (HFl.out.trans HOo.out.symm) (by rw [HOo.out]; exact Hpos.out) (.inl fun k hk e => by
                have h4 : g = k := by injection e
                omega)
          have HJ := Lib.hid hj
          have HB5 := Lib.hid (bthen HBr.out hb5)
          clear hj hO5 hb5 hv5 hgl
          go_wp2_with fail
          refine HJ.out.mono ?_
          rintro e w6 ⟨rfl, hO6, hA6⟩
          rw [HOo.out] at hO6
          have HO6 := Lib.hid hO6
          have HB6 : Hid (Below w.heap.size w w6) := Lib.hid (((below_apart HB5.out (fun k => w.heap.size ≤ k)).trans hA6 (fun i _ hi => by
            have h4 : g = i := by injection hi
            have h1 := HG.out
            have h2 := HB1.out.size
            omega)).below (Nat.le_refl _) (fun k hk => by omega))
          have HJl : Hid ((joinB o (f o)).length = fr.length) := Lib.hid ((join_len (HFl.out.trans HOo.out.symm)).trans HOo.out)
          clear hO6 hA6
          cases hm : moreB o (f o) with
          | true =>
            have hlp2 : loopF f n (joinB o (f o)) = res := by rw [← HLp.out]; conv => rhs; rw [loopF, if_pos hm]
            have hfw := join_fewer o (f o) hm
            have HLp2 := Lib.hid hlp2
            have HFw := Lib.hid hfw
            clear hm hlp2 hfw
            go_wp2_with fail
            go_roundw
            case rel => exact ⟨n, _, HO6.out, HJl.out, HLp2.out, by have := HFw.out; have := HFa.out; omega, HB6.out⟩
            case measure => rw [RowM_at HO6.out, RowM_at HOr.out]; exact HFw.out
          | false =>
            have hres : res = joinB o (f o) := by rw [← HLp.out, loopF, if_neg (by rw [hm]; decide)]
            have HFin : Hid (w6.ownsRow w.heap.size 4 1 (.slice (some ⟨g, 0, none⟩) fr.length cap) res.length (res.map Value.bool)) := Lib.hid (by rw [hres, HJl.out]; exact own_shift HO6.out HB1.out.size)
            clear hm hres
            go_wp2_with fail
            go_ret
            exact ⟨_, rfl, HB6.out, HFin.out⟩
end Go.Proofs.YtlhmdgaohonpbaaGreatDoor

/- package rex: ends, Match. -/
namespace Go.Proofs.YtlhmdgaohonpbaaGreatDoor
open Go.RowKit Go.Proofs.YtlhmdgaohonpbaaGreatDoor.MapRaw Go.ChangeMaps

theorem made_bool (n : Nat) : (madeCells (Value.bool false).cells (n * 1)).toList = (List.replicate n false).map Value.bool := by
  rw [Nat.mul_one, show (Value.bool false).cells = #[Value.bool false] from rfl, toList_madeCells_one, List.map_replicate]
def onePart (z : List Bool) (m k : Nat) : List Bool := false :: (z.take k ++ List.replicate (m - k) false)
theorem one_zero (z : List Bool) (m : Nat) : onePart z m 0 = List.replicate (m + 1) false := by unfold onePart; simp [List.replicate_succ]
theorem one_all {z : List Bool} {m : Nat} (h : z.length = m) : onePart z m m = false :: z := by unfold onePart; rw [List.take_of_length_le (by omega)]; simp
theorem onep_len {z : List Bool} {m : Nat} (h : z.length = m) {k : Nat} (hk : k ≤ m) : (onePart z m k).length = m + 1 := by unfold onePart; simp [h]; omega
theorem one_get {z : List Bool} {m : Nat} (h : z.length = m) {k : Nat} (hk : k < m) : (onePart z m k)[k + 1]? = some false := by
  unfold onePart
  rw [List.getElem?_cons_succ, List.getElem?_append_right (by rw [List.length_take]; omega), List.length_take, Nat.min_eq_left (by omega), Nat.sub_self, List.getElem?_replicate]
  rw [if_pos (by omega)]
theorem one_set {z : List Bool} {m : Nat} (h : z.length = m) {k : Nat} (hk : k < m) : (onePart z m k).set (k + 1) (z[k]'(by omega)) = onePart z m (k + 1) := by
  unfold onePart
  have hl : (z.take k).length = k := by rw [List.length_take]; omega
  rw [List.set_cons_succ, List.set_append_right _ _ (by omega), hl, Nat.sub_self, List.take_succ_eq_append_getElem (by omega), List.append_assoc]
  congr 2
  rw [show m - k = (m - (k + 1)) + 1 by omega, List.replicate_succ, List.set_cons_zero]
  rfl
theorem below_cell {B : Nat} {w W : World} (h : Below B w W) {g : Nat} (hg : B ≤ g) (k : Nat) (u : Value) : Below B w (W.setCell ⟨g, k, none⟩ u) :=
  ⟨h.os, h.tape, h.output, by simpa [World.setCell] using h.size, fun j hj => (Below.heap_setCell _ _ _ _ (show j ≠ g by omega)).trans (h.block j hj)⟩
set_option maxRecDepth 100000 in
set_option maxHeartbeats 4000000 in
theorem rex_ends_one {h : Nat} {w : World} {D D1 D2 : Nat → Prop} {b : Nat} {sign : Int} {set : List Sp} {but plain : Bool} {parts : List Part} {lv fv : Value} {l : List Int} {fr : List Bool} (hp : PartAt w D (h + 1) b (.mk 0 set but plain parts sign)) (hl : Slc 1 encR w D1 lv l) (hf : Slc 1 encB w D2 fv fr) (hlen : fr.length = l.length + 1) (hl6 : l.length ≤ 1000000) :
    Calls Tryz.prog 139 #[.pointer (some ⟨b, 0, none⟩), lv, fv] w (EndsPost w fv fr (oneF set but l fr)) := by
  obtain ⟨-, -, sv, kv, ks, hblk, hsv, -⟩ := hp
  have c0 := blk_cell hblk 0
  simp at c0
  have HHas := Lib.hid fun (c : Int) (W : World) (hW : Below w.heap.size w W) => rex_has c W (blk_below hblk hW) (hsv.below hW)
  obtain ⟨i0, hi, hz0, hz1, hz2⟩ := info_parts info_bool
  obtain ⟨A3, c3, rfl, -, -, -, -, hRl⟩ := hl
  obtain ⟨A4, c4, rfl, -, -, -, -, hRf⟩ := hf
  have HRd1 := Lib.hid fun (W : World) (hW : Below w.heap.size w W) => Rd.below hRl hW
  have HRd2 := Lib.hid fun (W : World) (hW : Below w.heap.size w W) => Rd.below hRf hW
  obtain ⟨z, hz⟩ : ∃ z, z = List.zipWith (fun f c => f && hasF set but c) fr l := ⟨_, rfl⟩
  have hzl : z.length = l.length := by rw [hz, List.length_zipWith, hlen]; omega
  have HZ : Hid (∀ (k : Nat) (h1 : k < fr.length) (h2 : k < l.length) (h3 : k < z.length), z[k] = (fr[k] && hasF set but l[k])) := Lib.hid (fun k h1 h2 h3 => by subst hz; simp)
  have HOne : Hid (oneF set but l fr = false :: z) := Lib.hid (by rw [hz]; rfl)
  generalize oneF set but l fr = res at *
  obtain ⟨m, hm⟩ : ∃ m, m = l.length := ⟨_, rfl⟩
  have Hm := Lib.hid hm
  rw [← hm] at hlen hl6 hzl
  have HLen := Lib.hid hlen
  have HZl := Lib.hid hzl
  have H6 := Lib.hid hl6
  have hfl : fr.length = m + 1 := hlen
  rw [hfl, ← hm]
  clear hblk hsv hRl hRf hz hzl hm hlen hl6 hfl
  go_enter Tryz.func139, Tryz.ntmps139
  have hmk : ((m + 1 : Nat) : Int) = (m : Int) + 1 := by omega
  go_wp2_with (at_make; refine wpList_make_full _ rfl _ _ 175 rfl w.heap.size 4 i0 _ 1 Tryz.underlying175 hi hz0 hz1 .i64 .i64 _ _ (m + 1) rfl rfl rfl rfl (by rw [hz2]; have := H6.out; omega) (by have := H6.out; simp only [maxLen]; omega) (Nat.le_refl _) ?_; intro w1 hO hg; rw [made_bool, ← one_zero z] at hO; have HO := Lib.hid hO; have HB1 := Lib.hid (grown_below hg); clear hO hg)
  clear c0
  go_loopw [26] (fun i wr => ∃ k : Nat, k ≤ m ∧ i = .int .i64 k ∧ wr.ownsRow w.heap.size 4 1 (.slice (some ⟨w.heap.size, 0, none⟩) (m + 1) (m + 1)) (m + 1) ((onePart z m k).map Value.bool) ∧ Below w.heap.size w wr) (fun i _ => m - (intOf i).toNat)
  case atStart => exact ⟨0, Nat.zero_le _, rfl, HO.out, HB1.out⟩
  case round =>
    obtain ⟨k, hk, rfl, hO, hB⟩ := hrel
    have HOr := Lib.hid hO
    have HBr := Lib.hid hB
    by_cases hlt : k < m
    · have hkl : k < l.length := by rw [← Hm.out]; exact hlt
      have hkf : k < fr.length := by rw [HLen.out]; omega
      have hkz : k < z.length := by rw [HZl.out]; exact hlt
      obtain ⟨lb, lo, el, y1⟩ := rd1 (f := Value.int .i32) (HRd1.out wr hB) hkl
      subst el
      obtain ⟨fb, fo, ef, y2⟩ := rd1 (f := Value.bool) (HRd2.out wr hB) hkf
      subst ef
      have y3 := own_b hO (onep_len HZl.out (by omega)).symm (one_get HZl.out hlt)
      have f3 : wr.frozen? ⟨w.heap.size, k + 1, none⟩ = false := own_free hO
      have hzk := HZ.out k hkf hkl hkz
      have hset := one_set HZl.out hlt
      have hsum : IntKind.i64.wrap ((k : Int) + 1) = (k : Int) + 1 := IntWalk.i64_in _ (by have := H6.out; omega)
      have hi0 : (0 : Int) ≤ (k : Int) := by omega
      have hi1 : (k : Int) < (m : Int) := by omega
      have hi2 : (k : Int) < ((m + 1 : Nat) : Int) := by omega
      have hi3 : (k : Int) + 1 < ((m + 1 : Nat) : Int) := by omega
      have hi4 : (0 : Int) ≤ (k : Int) + 1 := by omega
      have HHk := Lib.hid (HHas.out l[k])
      generalize l[k] = c at *
      generalize fr[k] = fb1 at *
      generalize z[k] = zk at *
      have HSet := Lib.hid hset
      have HZk := Lib.hid hzk
      clear hO hB hkl hkf hkz hset hzk
      cases fb1 with
      | false =>
        have hz0' : zk = false := by rw [HZk.out]; rfl
        have hO2 := own_set1 (k := k + 1) (u := .bool false) HOr.out (by omega)
        rw [← List.map_set, ← hz0', HSet.out] at hO2
        have HO2 : Hid ((wr.setCell ⟨w.heap.size, k + 1, none⟩ (.bool false)).ownsRow w.heap.size 4 1 (.slice (some ⟨w.heap.size, 0, none⟩) (m + 1) (m + 1)) (m + 1) ((onePart z m (k + 1)).map Value.bool)) := Lib.hid (by rw [hz0'] at hO2; exact hO2)
        have HB2 : Hid (Below w.heap.size w (wr.setCell ⟨w.heap.size, k + 1, none⟩ (.bool false))) := Lib.hid (below_cell HBr.out (Nat.le_refl _) _ _)
        clear hO2 hz0'
        go_wp2_with fail
        go_roundw
        case rel => exact ⟨k + 1, by omega, by go_num, HO2.out, HB2.out⟩
        case measure => simp [intOf] <;> omega
      | true =>
        have hz0' : zk = hasF set but c := by rw [HZk.out]; simp
        have HHc := Lib.hid (HHk.out wr HBr.out)
        generalize hasF set but c = hb at *
        subst hz0'
        go_wp2_with fail
        refine HHc.out.mono ?_
        rintro e w5 ⟨rfl, hb5⟩
        have HO5 := Lib.hid (own_below HOr.out hb5)
        have HB5 := Lib.hid (bthen HBr.out hb5)
        have q3 := later hb5 y3
        have q4 : w5.frozen? ⟨w.heap.size, k + 1, none⟩ = false := own_free HO5.out
        have hO2 := own_set1 (k := k + 1) (u := .bool zk) HO5.out (by omega)
        rw [← List.map_set, HSet.out] at hO2
        have HO2 := Lib.hid hO2
        have HB2 : Hid (Below w.heap.size w (w5.setCell ⟨w.heap.size, k + 1, none⟩ (.bool zk))) := Lib.hid (below_cell HB5.out (Nat.le_refl _) _ _)
        clear hO2 hb5 y3 f3
        go_wp2_with fail
        go_roundw
        case rel => exact ⟨k + 1, by omega, by go_num, HO2.out, HB2.out⟩
        case measure => simp [intOf] <;> omega
    · have hkm : k = m := by omega
      subst hkm
      rw [one_all HZl.out] at hO
      have HFin : Hid (wr.ownsRow w.heap.size 4 1 (.slice (some ⟨w.heap.size, 0, none⟩) (k + 1) (k + 1)) res.length (res.map Value.bool)) := Lib.hid (by rw [HOne.out, List.length_cons, HZl.out]; exact hO)
      clear hO hB
      go_wp2_with fail
      go_ret
      exact ⟨_, rfl, HBr.out, .inr HFin.out⟩
end Go.Proofs.YtlhmdgaohonpbaaGreatDoor

/- package rex: ends of parts together; Match. -/
namespace Go.Proofs.YtlhmdgaohonpbaaGreatDoor
open Go.RowKit Go.Proofs.YtlhmdgaohonpbaaGreatDoor.MapRaw Go.ChangeMaps

theorem foldl_take {α β : Type} (g : β → α → β) (z : β) (xs : List α) (k : Nat) (hk : k < xs.length) : (xs.take (k + 1)).foldl g z = g ((xs.take k).foldl g z) xs[k] := by
  rw [List.take_succ_eq_append_getElem hk, List.foldl_append]; rfl
set_option maxRecDepth 100000 in
set_option maxHeartbeats 4000000 in
theorem rex_ends_many {h : Nat} (hE : EndsC h) {w : World} {D D1 D2 : Nat → Prop} {b : Nat} {sign : Int} {set : List Sp} {but plain : Bool} {parts : List Part} {lv fv : Value} {l : List Int} {fr : List Bool} (hp : PartAt w D (h + 1) b (.mk 1 set but plain parts sign)) (hl : Slc 1 encR w D1 lv l) (hf : Slc 1 encB w D2 fv fr) (hlen : fr.length = l.length + 1) (hl6 : l.length ≤ 1000000) :
    Calls Tryz.prog 139 #[.pointer (some ⟨b, 0, none⟩), lv, fv] w (EndsPost w fv fr (parts.foldl (fun fr x => endsF h x l fr) fr)) := by
  obtain ⟨-, -, sv, kv, ks, hblk, -, hk, hkl, hkids⟩ := hp
  have c0 := blk_cell hblk 0
  have c4 := blk_cell hblk 4
  simp at c0 c4
  have HEnds := Lib.hid fun (W : World) (hW : Below w.heap.size w W) (i k : Nat) (hi : ks[i]? = some k) (x : Part) (hx : parts[i]? = some x) (D3 : Nat → Prop) (fv' : Value) (fr' : List Bool) (hf' : Slc 1 encB W D3 fv' fr') (hl' : fr'.length = fr.length) => hE W D D1 D3 k x lv fv' l fr' (PartAt.move hW.size (fun j hj _ => hW.block j hj) (fun _ _ hd => hd) _ _ _ (hkids i k hi x hx)) (hl.below hW) hf' (by rw [hl', hlen]) hl6
  have HEl := Lib.hid fun (x : Part) (o : List Bool) (ho : o.length = fr.length) => (ends_len h x l o (by rw [ho, hlen])).trans hlen.symm
  have HF := Lib.hid (Slc.mono (D' := fun k => k < w.heap.size) hf (fun k hk _ => hk))
  have Hpos : Hid (0 < fr.length ∧ fr.length ≤ 1000001) := Lib.hid (by omega)
  obtain ⟨A, ck, rfl, q1, q2, -, -, hR⟩ := hk
  have HRk := Lib.hid fun (W : World) (hW : Below w.heap.size w W) => Rd.below hR hW
  have hm9 : ks.length ≤ 9223372036854775807 := by simp only [maxLen] at q2; omega
  obtain ⟨m, hm⟩ : ∃ m, m = ks.length := ⟨_, rfl⟩
  have Hm := Lib.hid hm
  have Hkl := Lib.hid hkl
  rw [← hm] at c4 hm9
  obtain ⟨A3, c3, rfl, -⟩ := hl
  have HFold := Lib.hid fun (k : Nat) (hk : k < parts.length) => foldl_take (fun fr x => endsF h x l fr) fr parts k hk
  have HAll : Hid ((parts.take parts.length).foldl (fun fr x => endsF h x l fr) fr = parts.foldl (fun fr x => endsF h x l fr) fr) := Lib.hid (by rw [List.take_length])
  generalize parts.foldl (fun fr x => endsF h x l fr) fr = res at *
  generalize l.length = nl at *
  clear hblk hkids hf hlen hl6 hR hkl q1 q2 hm
  go_enter Tryz.func139, Tryz.ntmps139
  go_wp2_with fail
  go_loopw [2, 53] (fun ov i wr => ∃ k : Nat, k ≤ m ∧ i = .int .i64 k ∧ ((parts.take k).foldl (fun fr x => endsF h x l fr) fr).length = fr.length ∧ Below w.heap.size w wr ∧ ((ov = fv ∧ (parts.take k).foldl (fun fr x => endsF h x l fr) fr = fr) ∨ wr.ownsRow w.heap.size 4 1 ov ((parts.take k).foldl (fun fr x => endsF h x l fr) fr).length (((parts.take k).foldl (fun fr x => endsF h x l fr) fr).map Value.bool))) (fun _ i _ => m - (intOf i).toNat)
  case atStart => exact ⟨0, Nat.zero_le _, rfl, rfl, Below.refl _ _, .inl ⟨rfl, rfl⟩⟩
  case round =>
    obtain ⟨k, hk, rfl, hol, hB, hO⟩ := hrel
    have HBr := Lib.hid hB
    have HOr := Lib.hid hO
    have HOl := Lib.hid hol
    by_cases hlt : k < m
    · have hkk : k < ks.length := by rw [← Hm.out]; exact hlt
      have hkp : k < parts.length := by rw [← Hkl.out]; exact hkk
      obtain ⟨kb, ko, e1, y1⟩ := rd1 (f := fun k => Value.pointer (some ⟨k, 0, none⟩)) (HRk.out wr hB) hkk
      subst e1
      have hso : ∃ D3, Slc 1 encB wr D3 u2 ((parts.take k).foldl (fun fr x => endsF h x l fr) fr) := by
        rcases hO with ⟨e1, e2⟩ | hO
        · rw [e1, e2]; exact ⟨_, HF.out.below hB⟩
        · exact ⟨_, own_b_slc hO⟩
      obtain ⟨D3, hso⟩ := hso
      have hcall := HEnds.out wr hB k ks[k] (List.getElem?_eq_getElem hkk) parts[k] (List.getElem?_eq_getElem hkp) D3 u2 _ hso hol
      have hnext := HFold.out k hkp
      have hnl := HEl.out parts[k] _ hol
      rw [← hnext] at hcall hnl
      have HCall := Lib.hid hcall
      have HNl := Lib.hid hnl
      have hi0 : (0 : Int) ≤ (k : Int) := by omega
      have hi1 : (k : Int) < (m : Int) := by omega
      generalize ks[k] = k0 at *
      clear hso hcall hnext hnl hO hB hol
      go_wp2_with fail
      refine HCall.out.mono ?_
      rintro e w5 ⟨v5, rfl, hb5, hv5⟩
      have HB5 := Lib.hid (bthen HBr.out hb5)
      have HO5 : Hid ((v5 = fv ∧ (parts.take (k + 1)).foldl (fun fr x => endsF h x l fr) fr = fr) ∨ w5.ownsRow w.heap.size 4 1 v5 ((parts.take (k + 1)).foldl (fun fr x => endsF h x l fr) fr).length (((parts.take (k + 1)).foldl (fun fr x => endsF h x l fr) fr).map Value.bool)) := Lib.hid (by
        rcases hv5 with ⟨e1, e2⟩ | hv5
        · rw [e1, e2]
          rcases HOr.out with hx | hx
          · exact .inl hx
          · exact .inr (own_below hx hb5)
        · exact .inr (own_shift hv5 HBr.out.size))
      clear hb5 hv5
      go_wp2_with fail
      go_roundw
      case rel => exact ⟨k + 1, by omega, by go_num, HNl.out, HB5.out, HO5.out⟩
      case measure => simp [intOf] <;> omega
    · have hkm : k = parts.length := by rw [← Hkl.out, ← Hm.out]; omega
      have HFin : Hid ((u2 = fv ∧ res = fr) ∨ wr.ownsRow w.heap.size 4 1 u2 res.length (res.map Value.bool)) := Lib.hid (by rw [hkm, HAll.out] at hO; exact hO)
      clear hO hB hol
      go_wp2_with fail
      go_ret
      exact ⟨_, rfl, HBr.out, HFin.out⟩
set_option maxRecDepth 100000 in
set_option maxHeartbeats 4000000 in
theorem rex_ends_alike {h : Nat} (hE : EndsC h) {w : World} {D D1 D2 : Nat → Prop} {b : Nat} {sign : Int} {set : List Sp} {but plain : Bool} {parts : List Part} {lv fv : Value} {l : List Int} {fr : List Bool} (hp : PartAt w D (h + 1) b (.mk 2 set but plain parts sign)) (hl : Slc 1 encR w D1 lv l) (hf : Slc 1 encB w D2 fv fr) (hlen : fr.length = l.length + 1) (hl6 : l.length ≤ 1000000) :
    Calls Tryz.prog 139 #[.pointer (some ⟨b, 0, none⟩), lv, fv] w (EndsPost w fv fr (parts.foldl (fun out x => joinB out (endsF h x l fr)) (fr.map fun _ => false))) := by
  obtain ⟨-, -, sv, kv, ks, hblk, -, hk, hkl, hkids⟩ := hp
  have c0 := blk_cell hblk 0
  have c4 := blk_cell hblk 4
  simp at c0 c4
  have HEnds := Lib.hid fun (W : World) (hW : Below w.heap.size w W) (i k : Nat) (hi : ks[i]? = some k) (x : Part) (hx : parts[i]? = some x) (D3 : Nat → Prop) (fv' : Value) (fr' : List Bool) (hf' : Slc 1 encB W D3 fv' fr') (hl' : fr'.length = fr.length) => hE W D D1 D3 k x lv fv' l fr' (PartAt.move hW.size (fun j hj _ => hW.block j hj) (fun _ _ hd => hd) _ _ _ (hkids i k hi x hx)) (hl.below hW) hf' (by rw [hl', hlen]) hl6
  have HEl := Lib.hid fun (x : Part) (o : List Bool) (ho : o.length = fr.length) => (ends_len h x l o (by rw [ho, hlen])).trans hlen.symm
  have HF := Lib.hid (Slc.mono (D' := fun k => k < w.heap.size) hf (fun k hk _ => hk))
  have Hpos : Hid (0 < fr.length ∧ fr.length ≤ 1000001) := Lib.hid (by omega)
  obtain ⟨A, ck, rfl, q1, q2, -, -, hR⟩ := hk
  have HRk := Lib.hid fun (W : World) (hW : Below w.heap.size w W) => Rd.below hR hW
  have hm9 : ks.length ≤ 9223372036854775807 := by simp only [maxLen] at q2; omega
  obtain ⟨m, hm⟩ : ∃ m, m = ks.length := ⟨_, rfl⟩
  have Hm := Lib.hid hm
  have Hkl := Lib.hid hkl
  rw [← hm] at c4 hm9
  obtain ⟨A3, c3, rfl, -⟩ := hl
  have HFold := Lib.hid fun (k : Nat) (hk : k < parts.length) => foldl_take (fun out x => joinB out (endsF h x l fr)) (fr.map fun _ => false) parts k hk
  have HAll : Hid ((parts.take parts.length).foldl (fun out x => joinB out (endsF h x l fr)) (fr.map fun _ => false) = parts.foldl (fun out x => joinB out (endsF h x l fr)) (fr.map fun _ => false)) := Lib.hid (by rw [List.take_length])
  have HZero : Hid ((fr.map fun _ => false) = List.replicate fr.length false) := Lib.hid (by rw [List.map_const'])
  generalize parts.foldl (fun out x => joinB out (endsF h x l fr)) (fr.map fun _ => false) = res at *
  obtain ⟨i0, hi, hz0, hz1, hz2⟩ := info_parts info_bool
  obtain ⟨A4, c4', rfl, -⟩ := hf
  generalize l.length = nl at *
  clear hblk hkids hlen hl6 hR hkl q1 q2 hm
  go_enter Tryz.func139, Tryz.ntmps139
  go_wp2_with (at_make; refine wpList_make_full _ rfl _ _ 175 rfl w.heap.size 4 i0 _ 1 Tryz.underlying175 hi hz0 hz1 .i64 .i64 _ _ fr.length rfl rfl rfl rfl (by rw [hz2]; have := Hpos.out; omega) (by have := Hpos.out; simp only [maxLen]; omega) (Nat.le_refl _) ?_; intro w1 hO hg; rw [made_bool, ← HZero.out] at hO; have HO := Lib.hid hO; have HB1 := Lib.hid (grown_below hg); have c4w := later (grown_below hg) c4; clear hO hg)
  go_loopw [73] (fun i wr => ∃ k : Nat, k ≤ m ∧ i = .int .i64 k ∧ ((parts.take k).foldl (fun out x => joinB out (endsF h x l fr)) (fr.map fun _ => false)).length = fr.length ∧ Below w.heap.size w wr ∧ wr.ownsRow w.heap.size 4 1 (.slice (some ⟨w.heap.size, 0, none⟩) fr.length fr.length) fr.length (((parts.take k).foldl (fun out x => joinB out (endsF h x l fr)) (fr.map fun _ => false)).map Value.bool)) (fun i _ => m - (intOf i).toNat)
  case atStart => exact ⟨0, Nat.zero_le _, rfl, by simp, HB1.out, HO.out⟩
  case round =>
    obtain ⟨k, hk, rfl, hol, hB, hO⟩ := hrel
    have HBr := Lib.hid hB
    have HOr := Lib.hid hO
    have HOl := Lib.hid hol
    by_cases hlt : k < m
    · have hkk : k < ks.length := by rw [← Hm.out]; exact hlt
      have hkp : k < parts.length := by rw [← Hkl.out]; exact hkk
      obtain ⟨kb, ko, e1, y1⟩ := rd1 (f := fun k => Value.pointer (some ⟨k, 0, none⟩)) (HRk.out wr hB) hkk
      subst e1
      have hcall := HEnds.out wr hB k ks[k] (List.getElem?_eq_getElem hkk) parts[k] (List.getElem?_eq_getElem hkp) _ (.slice A4 fr.length c4') fr (HF.out.below hB) rfl
      have hel := HEl.out parts[k] fr rfl
      have hnext := HFold.out k hkp
      have HCall := Lib.hid hcall
      have HEl1 := Lib.hid hel
      have HNext := Lib.hid hnext
      have hi0 : (0 : Int) ≤ (k : Int) := by omega
      have hi1 : (k : Int) < (m : Int) := by omega
      generalize ks[k] = k0 at *
      generalize endsF h parts[k] l fr = er at *
      generalize (parts.take k).foldl (fun out x => joinB out (endsF h x l fr)) (fr.map fun _ => false) = o at *
      clear hcall hnext hel hO hB hol
      go_wp2_with fail
      refine HCall.out.mono ?_
      rintro e w5 ⟨v5, rfl, hb5, hv5⟩
      have hO5 : w5.ownsRow w.heap.size 4 1 (.slice (some ⟨w.heap.size, 0, none⟩) fr.length fr.length) o.length (o.map Value.bool) := by rw [HOl.out]; exact own_below HOr.out hb5
      have hgl : w.heap.size < wr.heap.size := (ownsRow_blk HOr.out w.heap.size rfl).2
      have hj : Calls Tryz.prog 151 #[.slice (some ⟨w.heap.size, 0, none⟩) fr.length fr.length, v5] w5 fun e w' => e = .returned (.bool (moreB o er)) ∧ w'.ownsRow w.heap.size 4 1 (.slice (some ⟨w.heap.size, 0, none⟩) fr.length fr.length) o.length ((joinB o er).map Value.bool) ∧ Apart (fun k => (Value.slice (some ⟨w.heap.size, 0, none⟩) fr.length fr.length).ownBlock = some k) w5 w' := by
        have hpo : 0 < o.length := by rw [HOl.out]; exact Hpos.out.1
        have hle : er.length = o.length := HEl1.out.trans HOl.out.symm
        rcases hv5 with ⟨e1, e2⟩ | hv5
        · rw [e1]
          refine rex_join w5 hO5 (by rw [e2]; exact HF.out.below (bthen HBr.out hb5)) hle hpo (.inl fun k hk e => by
            have h4 : w.heap.size = k := by injection e
            omega)
        · exact rex_join w5 hO5 (own_b_slc hv5) hle hpo (.inl fun k hk e => by
            have h4 : w.heap.size = k := by injection e
            omega)
      have HJ := Lib.hid hj
      have HB5 := Lib.hid (bthen HBr.out hb5)
      clear hj hO5 hb5 hv5 hgl
      go_wp2_with fail
      refine HJ.out.mono ?_
      rintro e w6 ⟨rfl, hO6, hA6⟩
      rw [HOl.out, ← HNext.out] at hO6
      have HO6 := Lib.hid hO6
      have HB6 : Hid (Below w.heap.size w w6) := Lib.hid (((below_apart HB5.out (fun k => w.heap.size ≤ k)).trans hA6 (fun i _ hi => by
        have h4 : w.heap.size = i := by injection hi
        omega)).below (Nat.le_refl _) (fun k hk => by omega))
      have HJl : Hid (((parts.take (k + 1)).foldl (fun out x => joinB out (endsF h x l fr)) (fr.map fun _ => false)).length = fr.length) := Lib.hid (by rw [HNext.out, join_len (HEl1.out.trans HOl.out.symm), HOl.out])
      clear hO6 hA6
      go_wp2_with fail
      go_roundw
      case rel => exact ⟨k + 1, by omega, by go_num, HJl.out, HB6.out, HO6.out⟩
      case measure => simp [intOf] <;> omega
    · have hkm : k = parts.length := by rw [← Hkl.out, ← Hm.out]; omega
      have HFin : Hid (wr.ownsRow w.heap.size 4 1 (.slice (some ⟨w.heap.size, 0, none⟩) fr.length fr.length) res.length (res.map Value.bool)) := Lib.hid (by
        rw [hkm, HAll.out] at hO hol
        rw [hol]; exact hO)
      clear hO hB hol
      go_wp2_with fail
      go_ret
      exact ⟨_, rfl, HBr.out, .inr HFin.out⟩
end Go.Proofs.YtlhmdgaohonpbaaGreatDoor

/- package rex: ends at every part; Match. -/
namespace Go.Proofs.YtlhmdgaohonpbaaGreatDoor
open Go.RowKit Go.Proofs.YtlhmdgaohonpbaaGreatDoor.MapRaw Go.ChangeMaps

set_option maxRecDepth 100000 in
set_option maxHeartbeats 2000000 in
theorem rex_ends_again {h : Nat} (hE : EndsC h) {w : World} {D D1 D2 : Nat → Prop} {b : Nat} {kind sign : Int} {set : List Sp} {but plain : Bool} {x : Part} {rest : List Part} {lv fv : Value} {l : List Int} {fr : List Bool} (hp : PartAt w D (h + 1) b (.mk kind set but plain (x :: rest) sign)) (hl : Slc 1 encR w D1 lv l) (hf : Slc 1 encB w D2 fv fr) (hlen : fr.length = l.length + 1) (hl6 : l.length ≤ 1000000) (h0 : kind ≠ 0) (h1 : kind ≠ 1) (h2 : kind ≠ 2) :
    Calls Tryz.prog 139 #[.pointer (some ⟨b, 0, none⟩), lv, fv] w (EndsPost w fv fr (oftenF (endsF h x l) sign fr)) := by
  have hoft := rex_often hE hp hl hf hlen hl6
  have HOft := Lib.hid hoft
  obtain ⟨-, -, sv, kv, ks, hblk, -⟩ := hp
  have c0 := blk_cell hblk 0
  simp at c0
  generalize oftenF (endsF h x l) sign fr = res at *
  obtain ⟨A3, c3, rfl, -⟩ := hl
  have e0 : (kind == 0) = false := by simpa using h0
  have e1 : (kind == 1) = false := by simpa using h1
  have e2 : (kind == 2) = false := by simpa using h2
  generalize l.length = nl at *
  clear hoft hblk hf hlen hl6 h0 h1 h2
  go_enter Tryz.func139, Tryz.ntmps139
  go_wp2_with fail
  refine HOft.out.mono ?_
  rintro e w1 ⟨v, rfl, hb, hO⟩
  have HB := Lib.hid hb
  have HO := Lib.hid hO
  clear hb hO
  go_wp2_with fail
  go_ret
  exact ⟨_, rfl, HB.out, .inr HO.out⟩
/-- ends at parts of every height -/
theorem rex_ends : ∀ h : Nat, EndsC h
  | 0 => fun w D D1 D2 b p lv fv l fr hp _ _ _ _ => hp.elim
  | h + 1 => fun w D D1 D2 b p lv fv l fr hp hl hf hlen hl6 => by
    obtain ⟨kind, set, but, plain, parts, sign⟩ := p
    by_cases h0 : kind = 0
    · subst h0
      have := rex_ends_one hp hl hf hlen hl6
      rw [show endsF (h + 1) (.mk 0 set but plain parts sign) l fr = oneF set but l fr from by unfold endsF; rw [if_pos rfl]]
      exact this
    · by_cases h1 : kind = 1
      · subst h1
        have := rex_ends_many (rex_ends h) hp hl hf hlen hl6
        rw [show endsF (h + 1) (.mk 1 set but plain parts sign) l fr = parts.foldl (fun fr x => endsF h x l fr) fr from by conv => lhs; unfold endsF; rw [if_neg (by decide), if_pos rfl]]
        exact this
      · by_cases h2 : kind = 2
        · subst h2
          have := rex_ends_alike (rex_ends h) hp hl hf hlen hl6
          rw [show endsF (h + 1) (.mk 2 set but plain parts sign) l fr = parts.foldl (fun out x => joinB out (endsF h x l fr)) (fr.map fun _ => false) from by conv => lhs; unfold endsF; rw [if_neg (by decide), if_neg (by decide), if_pos rfl]]
          exact this
        · cases parts with
          | nil =>
            obtain ⟨-, hk, -⟩ := hp
            rcases hk with e | e | e | e
            · exact (h0 e).elim
            · exact (h1 e).elim
            · exact (h2 e).elim
            · exact (e rfl).elim
          | cons x rest =>
            have := rex_ends_again (rex_ends h) hp hl hf hlen hl6 h0 h1 h2
            rw [show endsF (h + 1) (.mk kind set but plain (x :: rest) sign) l fr = oftenF (endsF h x l) sign fr from by conv => lhs; unfold endsF; rw [if_neg h0, if_neg h1, if_neg h2]]
            exact this
theorem runes_len (s : ByteArray) : ∀ (n pos : Nat), (runesFrom s n pos).length ≤ n
  | 0, _ => Nat.le_refl _
  | n + 1, pos => by
    rw [runesFrom]
    split
    · rw [List.length_cons]; have := runes_len s n (pos + (Utf8.decode s pos).2); omega
    · simp
/-- does a whole text match a pattern's part? -/
def matchF (p : Part) (s : ByteArray) : Bool := ((endsF 64 p (runesF s) (true :: List.replicate (runesF s).length false))[(runesF s).length]?).getD false
set_option maxRecDepth 100000 in
set_option maxHeartbeats 2000000 in
theorem rex_match {w : World} {D : Nat → Prop} {xb tb : Nat} {t : ByteArray} {sz : Int} {p : Part} (s : ByteArray) (hx : w.heap[xb]? = some (.cells #[.string t, .pointer (some ⟨tb, 0, none⟩), .int .i64 sz] 199 (0, 0))) (hp : PartAt w D 64 tb p) (hs : s.size ≤ 1000000) :
    Calls Tryz.prog 113 #[.pointer (some ⟨xb, 0, none⟩), .string s] w fun e w' => e = .returned (.bool (matchF p s)) ∧ Below w.heap.size w w' := by
  have c1 := blk_cell hx 1
  simp at c1
  have HRun := Lib.hid fun (W : World) => rex_runes s W hs
  have hrl : (runesF s).length ≤ 1000000 := Nat.le_trans (runes_len s s.size 0) hs
  have HM : Hid (matchF p s = ((endsF 64 p (runesF s) (true :: List.replicate (runesF s).length false))[(runesF s).length]?).getD false) := Lib.hid rfl
  have HEl := Lib.hid (ends_len 64 p (runesF s) (true :: List.replicate (runesF s).length false) (by simp))
  generalize matchF p s = res at *
  generalize hl : runesF s = l at *
  have HP := Lib.hid hp
  have Hrl := Lib.hid hrl
  obtain ⟨i0, hi, hz0, hz1, hz2⟩ := info_parts info_bool
  clear hx hp hrl hl hs
  go_enter Tryz.func113, Tryz.ntmps113
  go_wp2_with fail
  refine (HRun.out w).mono ?_
  rintro e w1 ⟨v1, rfl, hs1, hb1⟩
  have HS1 := Lib.hid hs1
  have HB1 := Lib.hid hb1
  obtain ⟨A1, k1, rfl, -⟩ := hs1
  have c1' := later hb1 c1
  have hsum : IntKind.i64.wrap ((l.length : Int) + 1) = (l.length : Int) + 1 := IntWalk.i64_in _ (by have := Hrl.out; omega)
  clear hb1 c1
  obtain ⟨n, hn⟩ : ∃ n, n = l.length := ⟨_, rfl⟩
  have Hn := Lib.hid hn
  rw [← hn] at hsum ⊢
  clear hn
  have hmk : ((n + 1 : Nat) : Int) = (n : Int) + 1 := by omega
  go_wp2_with (at_make; refine wpList_make_full _ rfl _ _ 175 rfl w1.heap.size 4 i0 _ 1 Tryz.underlying175 hi hz0 hz1 .i64 .i64 _ _ (n + 1) rfl rfl hmk.symm hmk.symm (by rw [hz2, Hn.out]; have := Hrl.out; omega) (by rw [Hn.out]; have := Hrl.out; simp only [maxLen]; omega) (Nat.le_refl _) ?_; intro w2 hO hg; rw [made_bool] at hO; have HO := Lib.hid hO; have HB2 := Lib.hid (grown_below hg); have c2 := later (grown_below hg) c1'; have y0 : w2.cell? ⟨w1.heap.size, 0, none⟩ = some (.bool false) := own_b hO (by simp) (by simp); have f0 : w2.frozen? ⟨w1.heap.size, 0, none⟩ = false := own_free hO; clear hO hg c1')
  have hO3 := own_set1 (k := 0) (u := .bool true) HO.out (by omega)
  rw [← List.map_set, show (List.replicate (n + 1) false).set 0 true = true :: List.replicate n false from rfl] at hO3
  have hb3 : Below w1.heap.size w1 (w2.setCell ⟨w1.heap.size, 0, none⟩ (.bool true)) := below_cell HB2.out (Nat.le_refl _) _ _
  have hbw := bthen HB1.out hb3
  have hfl : (true :: List.replicate n false).length = n + 1 := by simp
  have hO4 : (w2.setCell ⟨w1.heap.size, 0, none⟩ (.bool true)).ownsRow w1.heap.size 4 1 (.slice (some ⟨w1.heap.size, 0, none⟩) (n + 1) (n + 1)) (true :: List.replicate n false).length ((true :: List.replicate n false).map Value.bool) := by rw [hfl]; exact hO3
  have hcall := rex_ends 64 _ D _ _ tb p (.slice A1 n k1) (.slice (some ⟨w1.heap.size, 0, none⟩) (n + 1) (n + 1)) l (true :: List.replicate n false) (PartAt.move hbw.size (fun j hj _ => hbw.block j hj) (fun _ _ hd => hd) _ _ _ HP.out) (by rw [Hn.out]; exact HS1.out.below hb3) (own_b_slc hO4) (by rw [hfl, Hn.out]) Hrl.out
  have HCall := Lib.hid hcall
  have HO4 := Lib.hid hO4
  have HBw := Lib.hid hbw
  clear hO3 hb3 hbw hfl hO4 hcall
  rw [← Hn.out] at HM HEl
  generalize endsF 64 p l (true :: List.replicate n false) = er at *
  refine HCall.out.mono ?_
  rintro e w4 ⟨v4, rfl, hb4, hv4⟩
  have hsl : ∃ D3, Slc 1 encB w4 D3 v4 er := by
    rcases hv4 with ⟨e1, e2⟩ | hv4
    · rw [e1, e2]; exact ⟨_, (own_b_slc HO4.out).below hb4⟩
    · exact ⟨_, own_b_slc hv4⟩
  obtain ⟨D3, A4, k4, e4, -, -, -, -, hR4⟩ := hsl
  subst e4
  have hel : er.length = n + 1 := HEl.out
  have hne : n < er.length := by omega
  obtain ⟨b4, o4, e5, y4⟩ := rd1 (f := Value.bool) hR4 hne
  subst e5
  have hres : res = er[n] := by rw [HM.out, List.getElem?_eq_getElem hne]; rfl
  have HRes := Lib.hid hres
  have HB4 := Lib.hid (bthen HBw.out hb4)
  generalize er[n] = rb at *
  have hi1 : (n : Int) < (er.length : Int) := by omega
  have hi0 : (0 : Int) ≤ (n : Int) := by omega
  clear hb4 hv4 hR4 hel hres hne
  go_wp2_with fail
  go_ret
  exact ⟨ret_bool HRes.out.symm, HB4.out⟩
end Go.Proofs.YtlhmdgaohonpbaaGreatDoor
