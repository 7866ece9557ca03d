import Derived.Test.YtbjglcdoekbloaaGreatDoorGHdB
import Derived.Deep.QuietTactic
import Derived.BigQuiet
set_option linter.unusedSimpArgs false
set_option linter.unusedVariables false
set_option linter.unusedSectionVars false
/- head.inner.full: is there no room for what is planned? -/
namespace Go.Proofs.YtbjglcdoekbloaaGreatDoor
open Go.RowKit Go.Proofs.YtbjglcdoekbloaaGreatDoor.MapRaw Go.ChangeMaps

/-- what is planned: of which number each post is, which series begin, the greatest number -/
structure Pl where
  of : List Int
  born : List (Int × List Lb)
  top : Int
abbrev encU (n : Int) : List Value := [.int .u64 n]
abbrev SlU (w : World) (D : Nat → Prop) (v : Value) (l : List Int) : Prop := Slc 1 encU w D v l
theorem rdU_at {w : World} {A : Option Addr} {l : List Int} (h : Rd 1 encU w A l) {k : Nat} (hk : k < l.length) :
    ∃ b off, A = some ⟨b, off, none⟩ ∧ w.cell? ⟨b, off + k, none⟩ = some (.int .u64 l[k]) := by
  obtain ⟨b, off, e, h⟩ := h k l[k] (List.getElem?_eq_getElem hk)
  refine ⟨b, off, e, ?_⟩
  have := h 0 _ rfl
  simpa using this
/-- the part of a plan that is read -/
structure PlAt (w : World) (D : Nat → Prop) (qb mb : Nat) (P : Pl) : Prop where
  ex : ∃ ofv B bc, w.heap[qb]? = some (.cells #[ofv, .slice B P.born.length bc, .map (some mb), .int .u64 P.top] 92 (0, 0)) ∧ SlU w D ofv P.of
  more : MapAt w eU evN mb (moreF P.of)
def tooB (H : Hd) (P : Pl) (ref : Int) : Bool := decide ((65536 : Int) < (((mget H.pts ref).getD []).length : Int) + (cntF P.of ref : Int))
def roomB (H : Hd) (P : Pl) : Bool := decide ((4096 : Int) < (H.ix.all.length : Int) + (P.born.length : Int)) || decide ((4294967295 : Int) < P.top)
def fullF (H : Hd) (P : Pl) : Bool := roomB H P || P.of.any (tooB H P)

set_option maxRecDepth 100000 in
set_option maxHeartbeats 1000000 in
theorem inner_full {D : Nat → Prop} {X : List Nat} {o : HLoc} {H : Hd} {qb mb : Nat} {P : Pl} (w : World) (h : InAt w X o H) (hP : PlAt w D qb mb P) (hl1 : H.ix.all.length ≤ 1000000) (hl2 : P.born.length ≤ 1000000) (hl3 : P.of.length ≤ 1000000) :
    Calls Tryz.prog 37 #[.pointer (some ⟨o.ib, 0, none⟩), .pointer (some ⟨qb, 0, none⟩)] w fun e w' => e = .returned (.bool (fullF H P)) ∧ Below w.heap.size w w' := by
  have i0 := blk_cell h.ic 0
  have i1 := blk_cell h.ic 1
  obtain ⟨ofv, B, bc, hq, hof⟩ := hP.ex
  have q0 := blk_cell hq 0
  have q1 := blk_cell hq 1
  have q2 := blk_cell hq 2
  have q3 := blk_cell hq 3
  simp at i0 i1 q0 q1 q2 q3
  have hlen : ∀ m, Calls Tryz.prog 61 #[.pointer (some ⟨o.xb, 0, none⟩)] (w.drewN m) fun e w' => e = .returned (.int .i64 H.ix.all.length) ∧ w' = w.drewN m := fun m => (ix_len (w.drewN m) (h.ix.below (bdr (Below.refl _ _) m))).mono (fun _ _ h => ⟨h.1, h.2.symm⟩)
  have HLen := Lib.hid hlen
  have HI := Lib.hid h
  have HM := Lib.hid hP.more
  have hsum : IntKind.i64.wrap ((H.ix.all.length : Int) + (P.born.length : Int)) = (H.ix.all.length : Int) + (P.born.length : Int) := IntWalk.i64_in _ (by omega)
  obtain ⟨A, c, rfl, f1, f2, f3, f4, f5⟩ := hof
  have HR := Lib.hid f5
  obtain ⟨n, hn⟩ : ∃ n, n = P.of.length := ⟨_, rfl⟩
  have Hn := Lib.hid hn
  have hn3 : n ≤ 1000000 := by omega
  rw [← hn] at q0
  have hroom : roomB H P = (decide ((4096 : Int) < (H.ix.all.length : Int) + (P.born.length : Int)) || decide ((4294967295 : Int) < P.top)) := rfl
  have hfull : fullF H P = (roomB H P || P.of.any (tooB H P)) := rfl
  clear h hP hlen f1 f2 f3 f4 f5 hn hq hl3 hl1 hl2
  generalize H.ix.all.length = a at *
  generalize P.born.length = bn at *
  by_cases h1 : (4096 : Int) < (a : Int) + (bn : Int)
  · have hr : fullF H P = true := by rw [hfull, hroom]; simp [h1]
    rw [hr]
    clear hr hroom hfull
    go_enter Tryz.func37, Tryz.ntmps37
    go_wp2
    go_quiet (first | (go_at_call 61; exact Calls.quiet_of_same (HLen.out _)))
    go_wp2
    go_ret
    exact ⟨rfl, bdr (Below.refl _ _) _⟩
  · have h1' : decide ((4096 : Int) < (a : Int) + (bn : Int)) = false := by simpa using h1
    by_cases h2 : (4294967295 : Int) < P.top
    · have hr : fullF H P = true := by rw [hfull, hroom]; simp [h2]
      rw [hr]
      clear hr hroom hfull h1
      go_enter Tryz.func37, Tryz.ntmps37
      go_wp2
      go_quiet (first | (go_at_call 61; exact Calls.quiet_of_same (HLen.out _)))
      go_wp2
      go_ret
      exact ⟨rfl, bdr (Below.refl _ _) _⟩
    · have h2' : decide ((4294967295 : Int) < P.top) = false := by simpa using h2
      have hr : fullF H P = P.of.any (tooB H P) := by rw [hfull, hroom, h1', h2']; rfl
      rw [hr]
      clear hr hroom hfull h1 h2
      go_enter Tryz.func37, Tryz.ntmps37
      go_wp2
      go_quiet (first | (go_at_call 61; exact Calls.quiet_of_same (HLen.out _)))
      go_wp2
      go_loopw [31] (fun i wr => ∃ k : Nat, k ≤ n ∧ i = .int .i64 k ∧ AnyTo (tooB H P) P.of k ∧ Below w.heap.size w wr) (fun i _ => n - (intOf i).toNat)
      case atStart => exact ⟨0, Nat.zero_le _, rfl, AnyTo.start _ _, bdr (Below.refl _ _) _⟩
      case round =>
        obtain ⟨k, hk, rfl, hE, hB⟩ := hrel
        by_cases hlt : k < n
        · have hkl : k < P.of.length := by rw [← Hn.out]; exact hlt
          obtain ⟨b, off, rfl, z0⟩ := rdU_at (Rd.below HR.out hB) hkl
          have hcl : cntF P.of P.of[k] ≤ n := by rw [Hn.out]; exact cntF_le _ _
          have hRd := hE.round hkl
          obtain ⟨es, cc, ho, _, hlk⟩ := more_look (HM.out.move (hB.block _ HM.out.blk) (fun _ _ _ h => h)) P.of[k]
          obtain ⟨ep, cp, pv, hop, _, hev, hlp⟩ := pts_look (HI.out.below hB).pts P.of[k]
          rw [moreF_get] at hlk
          have hmu : tooB H P P.of[k] = decide ((65536 : Int) < (((mget H.pts P.of[k]).getD []).length : Int) + (cntF P.of P.of[k] : Int)) := rfl
          generalize cntF P.of P.of[k] = q at *
          generalize P.of[k] = x at *
          generalize hlpl : (mget H.pts x).getD [] = lp at *
          have hlen := hev.2
          obtain ⟨A2, c2, rfl, -⟩ := hev.1
          obtain ⟨m2, hm2⟩ : ∃ m2, m2 = lp.length := ⟨_, rfl⟩
          rw [← hm2] at hlen hmu hlp
          have hsum2 : IntKind.i64.wrap ((m2 : Int) + (q : Int)) = (m2 : Int) + (q : Int) := IntWalk.i64_in _ (by omega)
          have e1 := later hB i1
          have e2 := later hB q2
          have HB := Lib.hid hB
          clear hE hB hev hlpl hm2
          rcases hRd with ⟨g1, g2⟩ | ⟨g1, g2⟩
          · rw [hmu] at g1
            have G2 := Lib.hid g2
            clear hmu hlen g2
            go_wp2
            have y1 : wr.drew.cell? ⟨o.ib, 1, none⟩ = some (.map (some o.pb)) := e1
            have y2 : wr.drew.cell? ⟨qb, 2, none⟩ = some (.map (some mb)) := e2
            have hlk1 := hlk wr.drew ho
            have hlp1 := hlp wr.drew hop
            clear hlk hlp ho hop e1 e2
            go_region_held3 (fun w' => w'.cell? ⟨o.ib, 1, none⟩ = some (.map (some o.pb)) ∧ w'.cell? ⟨qb, 2, none⟩ = some (.map (some mb))) (exact ⟨y1, y2⟩) (fail)
            all_goals
              go_wp2
              go_ret
              exact ⟨ret_bool G2.out.symm, bdrew HB.out⟩
          · rw [hmu] at g1
            have HE' := Lib.hid g2
            clear hmu hlen g2
            go_wp2
            have y1 : wr.drew.cell? ⟨o.ib, 1, none⟩ = some (.map (some o.pb)) := e1
            have y2 : wr.drew.cell? ⟨qb, 2, none⟩ = some (.map (some mb)) := e2
            have hlk1 := hlk wr.drew ho
            have hlp1 := hlp wr.drew hop
            clear hlk hlp ho hop e1 e2
            go_region_held3 (fun w' => w'.cell? ⟨o.ib, 1, none⟩ = some (.map (some o.pb)) ∧ w'.cell? ⟨qb, 2, none⟩ = some (.map (some mb))) (exact ⟨y1, y2⟩) (fail)
            all_goals
              go_wp2
              go_roundw
              case rel => exact ⟨k + 1, by omega, by go_num, HE'.out, bdrew HB.out⟩
              case measure => simp [intOf]; omega
        · have hEd := hE.done (by rw [← Hn.out]; exact hlt)
          have G2 := Lib.hid hEd
          clear hE hEd
          go_wp2
          go_ret
          exact ⟨ret_bool G2.out.symm, hB⟩
end Go.Proofs.YtbjglcdoekbloaaGreatDoor

/- what head.inner.look comes to; its plan in memory. -/
namespace Go.Proofs.YtbjglcdoekbloaaGreatDoor
open Go.RowKit Go.Proofs.YtbjglcdoekbloaaGreatDoor.MapRaw Go.ChangeMaps

/-- a post: its cells (the labels are a slice v that reads lab) -/
structure Po where
  at_ : Int
  v : Value
  lab : List Lb
  T : Int
  V : Int
def Po.enc (x : Po) : List Value := [.int .i64 x.at_, x.v, .int .i64 x.T, .int .u64 x.V]
/-- the labels of all posts are read out of blocks of D -/
def PoOk (w : World) (D : Nat → Prop) (l : List Po) : Prop := ∀ x ∈ l, SlL w D x.v x.lab ∧ SzL x.lab
theorem rdO_at {w : World} {A : Option Addr} {l : List Po} (h : Rd 4 Po.enc w A l) {k : Nat} (hk : k < l.length) :
    ∃ b off, A = some ⟨b, off, none⟩ ∧ w.cell? ⟨b, off + k * 4, none⟩ = some (.int .i64 l[k].at_) ∧ w.cell? ⟨b, off + k * 4 + 1, none⟩ = some l[k].v ∧ w.cell? ⟨b, off + k * 4 + 2, none⟩ = some (.int .i64 l[k].T) ∧ w.cell? ⟨b, off + k * 4 + 3, none⟩ = some (.int .u64 l[k].V) := by
  obtain ⟨b, off, e, h⟩ := h k l[k] (List.getElem?_eq_getElem hk)
  exact ⟨b, off, e, h 0 _ rfl, h 1 _ rfl, h 2 _ rfl, h 3 _ rfl⟩
theorem PoOk.move {w w' : World} {D : Nat → Prop} {l : List Po} (h : PoOk w D l) (hs : w.heap.size ≤ w'.heap.size) (hb : ∀ k, k < w.heap.size → D k → w'.heap[k]? = w.heap[k]?) : PoOk w' D l := fun x hx => ⟨(h x hx).1.move hs hb, (h x hx).2⟩
theorem PoOk.below {w w' : World} {D : Nat → Prop} {l : List Po} (h : PoOk w D l) (hb : Below w.heap.size w w') : PoOk w' D l := h.move hb.size fun k hk _ => hb.block k hk
/-- a record in memory -/
structure RecV where
  r : Rec
  lv : Value
  pv : Value
def RecV.enc (x : RecV) : List Value := [.int .i64 x.r.kind, .int .u32 x.r.ref, x.lv, x.pv]
def RecOk (w : World) (D : Nat → Prop) (l : List RecV) : Prop := ∀ x ∈ l, SlL w D x.lv x.r.lab ∧ SlE w D x.pv x.r.pts
theorem RecOk.move {w w' : World} {D : Nat → Prop} {l : List RecV} (h : RecOk w D l) (hs : w.heap.size ≤ w'.heap.size) (hb : ∀ k, k < w.heap.size → D k → w'.heap[k]? = w.heap[k]?) : RecOk w' D l := fun x hx => ⟨(h x hx).1.move hs hb, (h x hx).2.move hs hb⟩
theorem RecOk.mono {w : World} {D D' : Nat → Prop} {l : List RecV} (h : RecOk w D l) (hD : ∀ k, k < w.heap.size → D k → D' k) : RecOk w D' l := fun x hx => ⟨(h x hx).1.mono hD, (h x hx).2.mono hD⟩

/-- the number of the series of labels: by the index, or of an earlier post -/
def lookRef (I : Ix) (prev : List (List Lb × Int)) (lab : List Lb) : Option Int :=
  if (refF I lab).isSome = true then refF I lab else (prev.find? fun p => decide (p.1 = lab)).map (·.2)
structure Lk where
  prev : List (List Lb × Int)
  born : List Rec
  top : Int
def lookStep (I : Ix) (s : Lk) (lab : List Lb) : Lk :=
  match lookRef I s.prev lab with
  | some n => ⟨s.prev ++ [(lab, n)], s.born, s.top⟩
  | none => ⟨s.prev ++ [(lab, s.top + 1)], s.born ++ [⟨1, IntKind.u32.wrap (s.top + 1), lab, []⟩], s.top + 1⟩
def lookAll (I : Ix) (top : Int) (ls : List (List Lb)) : Lk := ls.foldl (lookStep I) ⟨[], [], top⟩
def Lk.of (s : Lk) : List Int := s.prev.map (·.2)
theorem lookAll_add (I : Ix) (top : Int) (l : List Po) (k : Nat) (hk : k < l.length) : lookAll I top ((l.take (k + 1)).map Po.lab) = lookStep I (lookAll I top ((l.take k).map Po.lab)) l[k].lab := by
  unfold lookAll
  rw [List.take_succ_eq_append_getElem hk, List.map_append, List.foldl_append]; rfl
theorem lookStep_some {I : Ix} {s : Lk} {lab : List Lb} {n : Int} (h : lookRef I s.prev lab = some n) : lookStep I s lab = ⟨s.prev ++ [(lab, n)], s.born, s.top⟩ := by unfold lookStep; rw [h]
theorem lookStep_none {I : Ix} {s : Lk} {lab : List Lb} (h : lookRef I s.prev lab = none) : lookStep I s lab = ⟨s.prev ++ [(lab, s.top + 1)], s.born ++ [⟨1, IntKind.u32.wrap (s.top + 1), lab, []⟩], s.top + 1⟩ := by unfold lookStep; rw [h]
theorem look_prev (I : Ix) (top : Int) : ∀ (ls : List (List Lb)), (lookAll I top ls).prev.map (·.1) = ls ∧ top ≤ (lookAll I top ls).top ∧ (lookAll I top ls).top ≤ top + ls.length ∧ (lookAll I top ls).born.length ≤ ls.length := by
  have key : ∀ (ls : List (List Lb)) (s : Lk), (ls.foldl (lookStep I) s).prev.map (·.1) = s.prev.map (·.1) ++ ls ∧ s.top ≤ (ls.foldl (lookStep I) s).top ∧ (ls.foldl (lookStep I) s).top ≤ s.top + ls.length ∧ (ls.foldl (lookStep I) s).born.length ≤ s.born.length + ls.length := by
    intro ls
    induction ls with
    | nil => intro s; simp
    | cons a r ih =>
      intro s
      rw [List.foldl_cons]
      obtain ⟨i1, i2, i3, i4⟩ := ih (lookStep I s a)
      cases hr : lookRef I s.prev a with
      | some n =>
        rw [lookStep_some hr] at *
        refine ⟨by rw [i1]; simp, i2, ?_, ?_⟩
        · simp only [List.length_cons] at *; omega
        · simp only [List.length_cons] at *; omega
      | none =>
        rw [lookStep_none hr] at *
        refine ⟨by rw [i1]; simp, ?_, ?_, ?_⟩
        · have : s.top + 1 ≤ _ := i2; omega
        · simp only [List.length_cons] at *; omega
        · simp only [List.length_cons, List.length_append, List.length_nil] at *; omega
  intro ls
  have := key ls ⟨[], [], top⟩
  simpa [lookAll] using this
/-- where the inner loop stands -/
def InTo (I : Ix) (prev : List (List Lb × Int)) (lab : List Lb) (j : Nat) (b : Bool) (q : Int) : Prop :=
  (b = true ∧ lookRef I prev lab = some q) ∨ (b = false ∧ (refF I lab).isSome = false ∧ (prev.take j).find? (fun p => decide (p.1 = lab)) = none)
theorem InTo.start (I : Ix) (prev : List (List Lb × Int)) (lab : List Lb) : InTo I prev lab 0 (refF I lab).isSome ((refF I lab).getD 0) := by
  cases h : refF I lab with
  | none => exact .inr ⟨rfl, by rw [h]; rfl, rfl⟩
  | some q => exact .inl ⟨rfl, by unfold lookRef; rw [h]; simp⟩
theorem InTo.hit {I : Ix} {prev : List (List Lb × Int)} {lab : List Lb} {j : Nat} {q : Int} (h : InTo I prev lab j false q) {p : List Lb × Int} (hp : prev[j]? = some p) (he : p.1 = lab) : lookRef I prev lab = some p.2 := by
  rcases h with ⟨h, _⟩ | ⟨_, h1, h2⟩
  · cases h
  · unfold lookRef
    rw [if_neg (by simp [h1])]
    obtain ⟨hj, hpj⟩ := List.getElem?_eq_some_iff.1 hp
    have hs : prev = prev.take j ++ p :: prev.drop (j + 1) := by rw [← hpj]; simp
    rw [hs, List.find?_append, h2]
    simp [he]
theorem InTo.miss {I : Ix} {prev : List (List Lb × Int)} {lab : List Lb} {j : Nat} {q : Int} (h : InTo I prev lab j false q) {p : List Lb × Int} (hp : prev[j]? = some p) (he : p.1 ≠ lab) (q' : Int) : InTo I prev lab (j + 1) false q' := by
  rcases h with ⟨h, _⟩ | ⟨_, h1, h2⟩
  · cases h
  · refine .inr ⟨rfl, h1, ?_⟩
    obtain ⟨hj, hpj⟩ := List.getElem?_eq_some_iff.1 hp
    rw [List.take_succ_eq_append_getElem hj, List.find?_append, h2, hpj]
    simp [he]
theorem InTo.none {I : Ix} {prev : List (List Lb × Int)} {lab : List Lb} {j : Nat} {q : Int} (h : InTo I prev lab j false q) (hj : prev.length ≤ j) : lookRef I prev lab = none := by
  rcases h with ⟨h, _⟩ | ⟨_, h1, h2⟩
  · cases h
  · rw [List.take_of_length_le hj] at h2
    unfold lookRef
    rw [if_neg (by simp [h1]), h2]; rfl
theorem InTo.found {I : Ix} {prev : List (List Lb × Int)} {lab : List Lb} {j : Nat} {q : Int} (h : InTo I prev lab j true q) : lookRef I prev lab = some q := by
  rcases h with ⟨_, h⟩ | ⟨h, _⟩
  · exact h
  · cases h
theorem prev_at {prev : List (List Lb × Int)} {l : List Po} {k j : Nat} (h : prev.map (·.1) = (l.take k).map Po.lab) (hj : j < k) (hk : k ≤ l.length) : ∃ (hjl : j < l.length) (hjp : j < (prev.map (·.2)).length), prev[j]? = some (l[j].lab, (prev.map (·.2))[j]) := by
  have hl : prev.length = k := by have := congrArg List.length h; simp at this; omega
  refine ⟨by omega, by simp; omega, ?_⟩
  have h1 := congrArg (fun x => x[j]?) h
  simp only [List.getElem?_map, List.getElem?_take, if_pos hj] at h1
  rw [List.getElem?_eq_getElem (by omega : j < prev.length), List.getElem?_eq_getElem (by omega : j < l.length)] at h1
  simp only [Option.map_some, Option.some.injEq] at h1
  rw [List.getElem?_eq_getElem (by omega : j < prev.length)]
  simp [← h1]
end Go.Proofs.YtbjglcdoekbloaaGreatDoor

/- the plan of head.inner.look in memory: how it turns. -/
namespace Go.Proofs.YtbjglcdoekbloaaGreatDoor
open Go.RowKit Go.Proofs.YtbjglcdoekbloaaGreatDoor.MapRaw Go.ChangeMaps

theorem encU_len (x : Int) : (encU x).length = 1 := rfl
theorem recV_len (x : RecV) : x.enc.length = 4 := rfl
/-- what is behind a plan: the map of numbers, its two rows, the labels in them -/
structure LkRest (w : World) (B mb : Nat) (ml ofl : List Int) (ofv bornv : Value) (bl : List RecV) : Prop where
  more : MapAt w eU evN mb (moreF ml)
  of : w.ownsRow B 23 1 ofv ofl.length (ofl.flatMap encU)
  born : w.ownsRow B 45 4 bornv bl.length (bl.flatMap RecV.enc)
  labs : RecOk w (fun k => B ≤ k ∧ some k ≠ ofv.ownBlock ∧ some k ≠ bornv.ownBlock) bl
  sep : ∀ k, ofv.ownBlock = some k → bornv.ownBlock ≠ some k
  lt : mb < B ∧ B ≤ w.heap.size

theorem ownsRow_blk {w : World} {B sz n : Nat} {e : TypeId} {v : Value} {xs : List Value} (h : w.ownsRow B e sz v n xs) (k : Nat) (hk : v.ownBlock = some k) : B ≤ k ∧ k < w.heap.size := by
  rcases h.2 with ⟨rfl, _⟩ | ⟨g, cap, cur, rfl, hg, hh, _⟩
  · cases hk
  · simp [Value.ownBlock] at hk
    subst hk
    exact ⟨hg, (Array.getElem?_eq_some_iff.1 hh).1⟩
theorem ownsRow_move {w w' : World} {B sz n : Nat} {e : TypeId} {v : Value} {xs : List Value} (h : w.ownsRow B e sz v n xs) (hb : ∀ k, v.ownBlock = some k → w'.heap[k]? = w.heap[k]?) : w'.ownsRow B e sz v n xs := by
  refine ⟨h.1, ?_⟩
  rcases h.2 with h1 | ⟨g, cap, cur, rfl, hg, hh, r⟩
  · exact .inl h1
  · exact .inr ⟨g, cap, cur, rfl, hg, (hb g rfl).trans hh, r⟩
/-- nothing of it turns -/
theorem LkRest.frame {w w' : World} {B mb qb : Nat} {ml ofl : List Int} {ofv bornv : Value} {bl : List RecV} (h : LkRest w B mb ml ofl ofv bornv bl) (hq : qb < B) (hqm : qb ≠ mb) (hs : w.heap.size ≤ w'.heap.size) (hb : ∀ k, k < w.heap.size → k ≠ qb → w'.heap[k]? = w.heap[k]?) : LkRest w' B mb ml ofl ofv bornv bl := by
  have hlt := h.lt
  refine ⟨h.more.move (hb mb (by omega) (Ne.symm hqm)) (fun _ _ _ h => h), ownsRow_move h.of (fun k hk => ?_), ownsRow_move h.born (fun k hk => ?_), h.labs.move hs (fun k hk hD => hb k hk (by omega)), h.sep, ⟨hlt.1, by omega⟩⟩
  · have := ownsRow_blk h.of k hk
    exact hb k this.2 (by omega)
  · have := ownsRow_blk h.born k hk
    exact hb k this.2 (by omega)
theorem LkRest.below {w w' : World} {B mb qb : Nat} {ml ofl : List Int} {ofv bornv : Value} {bl : List RecV} (h : LkRest w B mb ml ofl ofv bornv bl) (hq : qb < B) (hqm : qb ≠ mb) (hb : Below w.heap.size w w') : LkRest w' B mb ml ofl ofv bornv bl :=
  h.frame hq hqm hb.size (fun k hk _ => hb.block k hk)
theorem LkRest.put {w : World} {B mb : Nat} {ml ml' ofl : List Int} {ofv bornv : Value} {bl : List RecV} {es : Array MapEntry} {c : Nat} (h : LkRest w B mb ml ofl ofv bornv bl) (hM : IsMap eU evN es c (moreF ml')) : LkRest (setBlock w mb (.map es c)) B mb ml' ofl ofv bornv bl := by
  have hlt := h.lt
  have keep : ∀ k, k ≠ mb → (setBlock w mb (.map es c)).heap[k]? = w.heap[k]? := fun k hne => setBlock_ne hne _
  refine ⟨⟨es, c, setBlock_at (by omega) _, hM⟩, ownsRow_move h.of (fun k hk => ?_), ownsRow_move h.born (fun k hk => ?_), h.labs.move (by rw [setBlock_size]; exact Nat.le_refl _) (fun k hk hD => keep k (by omega)), h.sep, ⟨hlt.1, by rw [setBlock_size]; exact hlt.2⟩⟩
  · have := ownsRow_blk h.of k hk
    exact keep k (by omega)
  · have := ownsRow_blk h.born k hk
    exact keep k (by omega)
theorem LkRest.addOf {w w1 : World} {B mb : Nat} {ml ofl : List Int} {ofv bornv v1 : Value} {bl : List RecV} {x : Int} (h : LkRest w B mb ml ofl ofv bornv bl) (ho : w1.ownsRow B 23 1 v1 (ofl.length + 1) (ofl.flatMap encU ++ [.int .u64 x])) (hg : w.grownBy w1 ofv.ownBlock) (hv : v1.ownBlock = ofv.ownBlock ∨ v1.ownBlock = some w.heap.size) :
    LkRest w1 B mb ml (ofl ++ [x]) v1 bornv bl := by
  have hlt := h.lt
  have keep : ∀ k, k < w.heap.size → some k ≠ ofv.ownBlock → w1.heap[k]? = w.heap[k]? := fun k hk hne => hg.block k hk hne
  refine ⟨h.more.move (keep mb (by omega) (fun e => ?_)) (fun _ _ _ h => h), by simpa using ho, ownsRow_move h.born (fun k hk => keep k (ownsRow_blk h.born k hk).2 (fun e => h.sep k e.symm hk)), ?_, ?_, ⟨hlt.1, Nat.le_trans hlt.2 hg.size⟩⟩
  · have := ownsRow_blk h.of mb e.symm
    omega
  · refine (h.labs.mono (D' := fun k => (B ≤ k ∧ some k ≠ v1.ownBlock ∧ some k ≠ bornv.ownBlock) ∧ some k ≠ ofv.ownBlock) (fun k hk hD => ⟨⟨hD.1, ?_, hD.2.2⟩, hD.2.1⟩)).move hg.size (fun k hk hD => keep k hk hD.2) |>.mono (fun k _ hD => hD.1)
    rcases hv with hv | hv
    · rw [hv]; exact hD.2.1
    · rw [hv]; intro e; cases e; omega
  · intro k hk hk2
    rcases hv with hv | hv
    · exact h.sep k (hv ▸ hk) hk2
    · rw [hv] at hk
      cases hk
      have := ownsRow_blk h.born _ hk2
      omega
theorem LkRest.addBorn {w w1 : World} {B mb : Nat} {ml ofl : List Int} {ofv bornv v1 : Value} {bl : List RecV} {x : RecV} (h : LkRest w B mb ml ofl ofv bornv bl) (ho : w1.ownsRow B 45 4 v1 (bl.length + 1) (bl.flatMap RecV.enc ++ x.enc)) (hg : w.grownBy w1 bornv.ownBlock) (hv : v1.ownBlock = bornv.ownBlock ∨ v1.ownBlock = some w.heap.size)
    (hx : RecOk w (fun k => B ≤ k ∧ some k ≠ ofv.ownBlock ∧ some k ≠ bornv.ownBlock) [x]) : LkRest w1 B mb ml ofl ofv v1 (bl ++ [x]) := by
  have hlt := h.lt
  have keep : ∀ k, k < w.heap.size → some k ≠ bornv.ownBlock → w1.heap[k]? = w.heap[k]? := fun k hk hne => hg.block k hk hne
  refine ⟨h.more.move (keep mb (by omega) (fun e => ?_)) (fun _ _ _ h => h), ownsRow_move h.of (fun k hk => keep k (ownsRow_blk h.of k hk).2 (fun e => h.sep k hk e.symm)), by simpa using ho, ?_, ?_, ⟨hlt.1, Nat.le_trans hlt.2 hg.size⟩⟩
  · have := ownsRow_blk h.born mb e.symm
    omega
  · have hall : RecOk w (fun k => B ≤ k ∧ some k ≠ ofv.ownBlock ∧ some k ≠ bornv.ownBlock) (bl ++ [x]) := fun y hy => (List.mem_append.1 hy).elim (h.labs y) (hx y)
    refine (hall.mono (D' := fun k => (B ≤ k ∧ some k ≠ ofv.ownBlock ∧ some k ≠ v1.ownBlock) ∧ some k ≠ bornv.ownBlock) (fun k hk hD => ⟨⟨hD.1, hD.2.1, ?_⟩, hD.2.2⟩)).move hg.size (fun k hk hD => keep k hk hD.2) |>.mono (fun k _ hD => hD.1)
    rcases hv with hv | hv
    · rw [hv]; exact hD.2.2
    · rw [hv]; intro e; cases e; omega
  · intro k hk hk2
    rcases hv with hv | hv
    · exact h.sep k hk (hv ▸ hk2)
    · rw [hv] at hk2
      cases hk2
      have := ownsRow_blk h.of _ hk
      omega
theorem info_u64 : (Tryz.prog.info? 23).map (fun i => (i.zero, i.size, i.bytes)) = some (some (.int .u64 0), 1, 8) := by kernel_rfl
/-- behind the append: the store of the row, and 'more' -/
theorem look_push {w6 : World} {B mb qb : Nat} {ofl : List Int} {q top : Int} {ofv v3 bornv : Value} {bl : List RecV} (h : LkRest w6 B mb ofl (ofl ++ [q]) v3 bornv bl) (hq : w6.heap[qb]? = some (.cells #[ofv, bornv, .map (some mb), .int .u64 top] 92 (0, 0))) (hqB : qb < B) (hqm : qb ≠ mb) :
    ∃ es c, (w6.setCell ⟨qb, 0, none⟩ v3).cell? ⟨qb, 2, none⟩ = some (.map (some mb)) ∧
      (Instr.lookup 90 (.map (some mb)) (.int .u64 q) false).run Tryz.prog (w6.setCell ⟨qb, 0, none⟩ v3) = .ok (.int .i64 (cntF ofl q)) (w6.setCell ⟨qb, 0, none⟩ v3) ∧
      (Instr.mapUpdate 90 (.map (some mb)) (.int .u64 q) (.int .i64 ((cntF ofl q : Int) + 1))).run Tryz.prog (w6.setCell ⟨qb, 0, none⟩ v3) = .ok () (setBlock (w6.setCell ⟨qb, 0, none⟩ v3) mb (.map es c)) ∧
      LkRest (setBlock (w6.setCell ⟨qb, 0, none⟩ v3) mb (.map es c)) B mb (ofl ++ [q]) (ofl ++ [q]) v3 bornv bl ∧
      (setBlock (w6.setCell ⟨qb, 0, none⟩ v3) mb (.map es c)).heap[qb]? = some (.cells #[v3, bornv, .map (some mb), .int .u64 top] 92 (0, 0)) := by
  have h7 : LkRest (w6.setCell ⟨qb, 0, none⟩ v3) B mb ofl (ofl ++ [q]) v3 bornv bl := h.frame hqB hqm (by simp [World.setCell]) (fun k _ hne => Below.heap_setCell _ _ _ _ hne)
  have hq7 := setCell_blk (i := 0) v3 hq
  obtain ⟨es0, c0, ho, hM, hl⟩ := more_look h7.more q
  rw [moreF_get] at hl
  obtain ⟨es, c, hu, hM2⟩ := update_all keyU Tryz.underlying90 mb hM (a := q) trivial (fun _ _ => trivial) (x := (cntF ofl q : Int) + 1) (v := .int .i64 ((cntF ofl q : Int) + 1)) rfl
  refine ⟨es, c, blk_cell hq7 2, hl _ ho, hu _ ho, h7.put ?_, ?_⟩
  · rw [moreF_add, moreF_get]; exact hM2
  · rw [setBlock_ne hqm, hq7]; rfl
theorem wpList_app2 {P : Program} {w0 w : World} {ops : Array Oper} {rest : List Oper} {o : Oper} {a : Act} {Q : Exit → Act → World → Prop} (base : Nat) (hgd : o.guard = none) (s x : Operand) (t e : TypeId) (z : Value) (size bytes m : Nat) (news : List Value)
    (ho : o.op = .call { callee := .builtin .append, args := #[s, x], argTypes := #[t, t] })
    (ht : P.underlying t = some (.slice e)) (hinfo : (P.info? e).map (fun i => (i.zero, i.size, i.bytes)) = some (some z, size, bytes)) (hz : z.cells.size = size) (hs0 : 0 < size) (hb0 : 0 < bytes)
    (v y : Value) (n : Nat) (xs : List Value) (hs : a.eval s = v) (hxe : a.eval x = y) (hx : SrcAt w y m size news)
    (HO : w.ownsRow base e size v n xs) (HB : Below base w0 w) (hbase : base ≤ w.heap.size) (hl : (n + m) * bytes ≤ 140737488355328)
    (h : ∀ v1 w1, w1.ownsRow base e size v1 (n + m) (xs ++ news) → Below base w0 w1 → w.grownBy w1 v.ownBlock → (v1.ownBlock = v.ownBlock ∨ v1.ownBlock = some w.heap.size) → wpList P ops Q rest (a.put o.dst v1) w1) :
    wpList P ops Q (o :: rest) a w :=
  wpList_app base hgd s x t e z size bytes m news ho ht hinfo hz hs0 hb0 v n xs hs (by rw [hxe]; exact hx) HO HB hbase hl h
end Go.Proofs.YtbjglcdoekbloaaGreatDoor
