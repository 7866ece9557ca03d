import Derived.Test.YtfjlballemibjaaDoorGOrB
set_option linter.unusedSimpArgs false
set_option linter.unusedVariables false
set_option linter.unusedSectionVars false
/- plain: what was recorded is there, and changes nothing when it is recorded again. -/
namespace Go.Proofs.YtfjlballemibjaaDoor
open Go.Proofs.YtfjlballemibjaaDoor.MapRaw

theorem mput_self {κ ν : Type} [DecidableEq κ] : ∀ {m : List (κ × ν)} {a : κ} {x : ν}, mget m a = some x → mput m a x = m
  | [], a, x, h => by cases h
  | p :: r, a, x, h => by
    rw [mput]
    rw [mget] at h
    by_cases e : p.1 = a
    · rw [if_pos e] at h ⊢
      cases h
      rw [← e]
    · rw [if_neg e] at h ⊢
      rw [mput_self h]
theorem put_again {l : List Pt} {p q : Pt} (hl : rightP l = true) (hp : p.S ≠ 0) (hq : atP l p.T = some q) (ha : aheadB p q = false) : (putF l p).2.2 = 0 ∧ (putF l p).1 = l := by
  obtain ⟨⟨hs, hr⟩, hlen⟩ := (rightP_iff l).1 hl
  have hh : hasP l p.T = true := by rw [has_at hr, hq]; rfl
  obtain ⟨q2, hq2, _, hqa⟩ := (at_low hr _).1 hh
  rw [hq] at hqa
  cases hqa
  unfold putF
  rw [if_neg (by simp [hp, hl]), hh, if_neg (by decide), hq2]
  simp only [Option.getD_some]
  rw [if_pos (.inr ha)]
  exact ⟨rfl, rfl⟩
/-- an entry is there -/
structure HasE (m : List (Int × List Pt)) (x : En) : Prop where
  s : x.p.S ≠ 0
  ex : ∃ q, atP ((mget m x.ref).getD []) x.p.T = some q ∧ aheadB x.p q = false
theorem putAll_again {m : List (Int × List Pt)} (hr : ∀ r, rightP ((mget m r).getD []) = true) : ∀ (es : List En), (∀ x ∈ es, HasE m x) → putAll es m = (0, m)
  | [], _ => rfl
  | x :: es, h => by
    obtain ⟨hs, q, hq, ha⟩ := h x (List.mem_cons_self ..)
    obtain ⟨e1, e2⟩ := put_again (hr x.ref) hs hq ha
    rw [putAll, if_neg (by simp [e1]), e2]
    have hm : mput m x.ref ((mget m x.ref).getD []) = m := by
      cases hg : mget m x.ref with
      | none => rw [hg] at hq; simp [atP] at hq
      | some lp => rw [Option.getD_some]; exact mput_self hg
    rw [hm]
    exact putAll_again hr es (fun y hy => h y (List.mem_cons_of_mem _ hy))
/-- a record is there -/
structure Has (H : Hd) (r : Rec) : Prop where
  chk : checkF r = 0
  kind : (r.kind = 1 ∧ mget H.ix.all r.ref = some r.lab) ∨ (r.kind ≠ 1 ∧ r.pts.length ≤ 16 ∧ ∀ x ∈ r.pts, HasE H.pts x)
theorem Has.again {H : Hd} {N : Nat} {r : Rec} (hI : Inv H N) (hN : N ≤ 400) (h2 : Inv2 H) (h : Has H r) : recordF H r = (0, H) := by
  unfold recordF
  rw [if_neg (by simp [h.chk])]
  rcases h.kind with ⟨hk, ha⟩ | ⟨hk, hl, hp⟩
  · rw [if_pos hk]
    unfold seriesF
    rw [if_pos ha]
  · rw [if_neg hk]
    unfold ptsF
    have hlost : r.pts.any (lostB H) = false := by
      rw [List.any_eq_false]
      intro y hy
      obtain ⟨_, q, hq, _⟩ := hp y hy
      unfold lostB
      have hpk := h2.pk y.ref
      cases hg : mget H.ix.all y.ref with
      | some z => simp
      | none =>
        rw [hg] at hpk
        cases hg2 : mget H.pts y.ref with
        | none => rw [hg2] at hq; simp [atP] at hq
        | some z => rw [hg2] at hpk; cases hpk
    have hmuch : r.pts.any (muchB H r.pts) = false := by
      rw [List.any_eq_false]
      intro y hy
      unfold muchB
      have h3 := (hI.pts y.ref).2
      have h4 := cntF_le (r.pts.map En.ref) y.ref
      rw [List.length_map] at h4
      simp
      omega
    rw [if_neg (by simp [hlost]), if_neg (by simp [hmuch]), putAll_again h2.right r.pts hp]
/-- a write, and what was recorded ahead of it -/
theorem again_step {H : Hd} {N : Nat} {C : List (List Lb × Pt)} (hI : Inv H N) (hN : N ≤ 400) (hC : Holds H C) (x : Wr) :
    (∃ n, n ≠ 0 ∧ planF H x.seq x.posts = ([], [], n)) ∨ ∃ recs marks H' C', Done H N x recs marks H' ∧ Holds H' C' ∧ (∀ r, Has H r → Has H' r) ∧ ∀ r ∈ recs, Has H' r := by
  rcases write_ok2 hI hN x with ⟨_, h⟩ | ⟨hg, recs, marks, H', d⟩
  · exact .inl h
  right
  obtain ⟨bp, s', es, dm⟩ := d.more
  obtain ⟨hC', hall⟩ := Holds.write hI hC dm (labs_ok _ hg.2.2)
  have w0 : (wlAll H x.seq (x.posts.zip (lookAll H.ix H.top (x.posts.map Po.lab)).of) ⟨[], []⟩).1 = 0 := by rw [dm.wl]
  refine ⟨recs, marks, H', _, d, hC', fun r h => ⟨h.chk, ?_⟩, fun r hr => ?_⟩
  · rcases h.kind with ⟨hk, ha⟩ | ⟨hk, hl, hp⟩
    · exact .inl ⟨hk, (hall _ _).2 (.inl ha)⟩
    · refine .inr ⟨hk, hl, fun y hy => ?_⟩
      obtain ⟨a, q, b, c⟩ := hp y hy
      refine ⟨a, ?_⟩
      have := wl_le H x.seq y.p y.ref _ ⟨[], []⟩ w0 ⟨q, b, c⟩
      rw [dm.now]
      rw [dm.wl] at this
      exact this
  · rw [dm.recs] at hr
    rcases List.mem_append.1 hr with hr | hr
    · obtain ⟨p, hp, e⟩ := List.mem_map.1 hr
      subst e
      obtain ⟨h1, h2, _⟩ := dm.lk.lab p hp
      obtain ⟨y, hy, e⟩ := List.mem_map.1 h1
      have hri : rightF p.2 = 0 := by rw [← e]; exact labs_ok _ hg.2.2 y hy
      have h3 := hI.top
      obtain ⟨i, hi⟩ := List.getElem?_of_mem hp
      have h4 := dm.lk.num i _ hi
      have h5 := (List.getElem?_eq_some_iff.1 hi).1
      have h6 : bp.length ≤ 16 := by
        have h7 := (look_prev H.ix H.top (x.posts.map Po.lab)).2.2.2
        rw [dm.lk.born] at h7
        have := hg.1
        simp only [List.length_map] at h7
        omega
      have hw : IntKind.u32.wrap p.1 = p.1 := u32_wrap (by omega) (by omega)
      refine ⟨?_, .inl ⟨rfl, ?_⟩⟩
      · unfold bornRec checkF
        rw [if_pos rfl, if_neg (by simp only [hw]; simp; omega)]
        exact hri
      · show mget H'.ix.all (IntKind.u32.wrap p.1) = some p.2
        rw [hw]
        exact (hall _ _).2 (.inr hp)
    · by_cases he : es = []
      · rw [if_pos he] at hr; simp at hr
      · rw [if_neg he] at hr
        simp at hr; subst hr
        refine ⟨dm.chk he, .inr ⟨show ¬ (2 : Int) = 1 by decide, dm.len, fun y hy => ?_⟩⟩
        obtain ⟨z, hz, e1, e2⟩ := dm.pt y hy
        have := wl_new H x.seq _ ⟨[], []⟩ w0 z hz
        rw [dm.wl] at this
        refine ⟨?_, ?_⟩
        · rw [e2]; exact hg.2.1
        · rw [dm.now, e1, e2]; exact this
end Go.Proofs.YtfjlballemibjaaDoor

/- a head and a row of records that grows: in memory. -/
namespace Go.Proofs.YtfjlballemibjaaDoor
open Go.RowKit Go.Proofs.YtfjlballemibjaaDoor.MapRaw Go.ChangeMaps

theorem Rd.srcL {α : Type} {sz : Nat} {enc : α → List Value} (he : ∀ x, (enc x).length = sz) (h0 : 0 < sz) {w : World} {A : Option Addr} {l : List α} {c : Nat} (h1 : ∀ x ∈ l, ∀ u ∈ enc x, u.oneCell' = true) (h : Rd sz enc w A l) (hA : A = none → c = 0) (hsp : ∀ ad, A = some ad → l ≠ [] → ad.spot = none) :
    SrcAt w (.slice A l.length c) l.length sz (l.flatMap enc) := by
  refine ⟨flat_len' he l, fun u hu => ?_, ?_⟩
  · obtain ⟨x, hm, hx⟩ := List.mem_flatMap.1 hu; exact h1 x hm u hx
  · cases A with
    | none =>
      left
      have : l = [] := by
        cases l with
        | nil => rfl
        | cons x l => obtain ⟨b, off, e, _⟩ := h 0 x rfl; cases e
      subst this; rw [hA rfl]; exact ⟨rfl, rfl⟩
    | some ad =>
      right
      refine ⟨ad, c, rfl, fun j u hj => ?_⟩
      have hjl : j < l.length * sz := by rw [← flat_len' he l]; exact (List.getElem?_eq_some_iff.1 hj).1
      have hi : j / sz < l.length := by rw [Nat.div_lt_iff_lt_mul h0]; exact hjl
      obtain ⟨b, off, e, hc⟩ := h (j / sz) l[j / sz] (List.getElem?_eq_getElem hi)
      have ead : ad = ⟨b, off, none⟩ := Option.some.inj e
      subst ead
      have hd : j / sz * sz + j % sz = j := by rw [Nat.mul_comm]; exact Nat.div_add_mod j sz
      have hg := flat_get he l (j / sz) (j % sz) hi (Nat.mod_lt _ h0)
      rw [hd, hj] at hg
      have := hc (j % sz) u hg.symm
      rw [add_plain]
      rw [← this]; congr 2; omega
theorem slice_one {w : World} {α : Type} {sz : Nat} {enc : α → List Value} {D : Nat → Prop} {v : Value} {l : List α} (h : Slc sz enc w D v l) : v.oneCell' = true := by
  obtain ⟨_, _, rfl, _⟩ := h; rfl
theorem recs_src {w : World} {D : Nat → Prop} {v : Value} {l : List RecV} (h : Slc 4 RecV.enc w D v l) (hl : RecOk w D l) : SrcAt w v l.length 4 (l.flatMap RecV.enc) := by
  obtain ⟨A, c, rfl, _, _, h3, h4, h5⟩ := h
  exact Rd.srcL recV_len (by decide) (fun x hx => recV_one x (slice_one (hl x hx).1) (slice_one (hl x hx).2)) h5 h3 fun ad ha hn => (h4 ad ha hn).1
theorem HeadAt.step {w w' : World} {X X' : List Nat} {o : HLoc} {H : Hd} {P : Nat → Prop} (h : HeadAt w X o H) (hA : Apart P w w') (hP : ∀ k, P k → k ∈ X) (hb : ∀ k ∈ blksH o, ¬ P k) (hX : ∀ k ∈ X, k ∈ X') (hX2 : ∀ k, k < w.heap.size → k ∉ X → k ∉ X') (hX3 : ∀ k ∈ X', k < w'.heap.size) : HeadAt w' X' o H := by
  have hlt := h.inn.ix.lt
  have hout : ∀ k, k < w.heap.size → k ∉ X → w'.heap[k]? = w.heap[k]? := fun k hk hX => hA.block k hk (fun hp => hX (hP k hp))
  have hin : ∀ k ∈ blksH o, w'.heap[k]? = w.heap[k]? := fun k hk => hA.block k (hlt k (h.sub k hk)) (hb k hk)
  have hhp : o.hp < w.heap.size := (Array.getElem?_eq_some_iff.1 h.hc).1
  have hxb : o.xb < w.heap.size := (Array.getElem?_eq_some_iff.1 h.inn.ix.cells).1
  refine ⟨(hout _ hhp h.inn.mem.2.2.2).trans h.hc, ⟨(hin _ (ib_mem o)).trans h.inn.ic, ?_, ?_, ⟨hX _ h.inn.mem.1, hX _ h.inn.mem.2.1, hX2 _ hxb h.inn.mem.2.2.1, hX2 _ hhp h.inn.mem.2.2.2⟩, h.inn.ne⟩⟩
  · refine h.inn.ix.move hA.size (fun k hk hk2 => ?_) hX2 hX hX3
    rcases hk2 with hk2 | rfl | hk2
    · exact hout k hk hk2
    · exact hout _ hxb h.inn.mem.2.2.1
    · exact hin k (by unfold blksH; exact List.mem_append_right _ hk2)
  · exact h.inn.pts.move (hin _ (pb_mem o)) (fun p _ v hv => evP.move hv hA.size hout hX2)
theorem RecOk.turn {w w' : World} {X X' : List Nat} {l : List RecV} (h : RecOk w (fun k => k ∉ X) l) (hA : Apart (fun k => k ∈ X) w w') (hX : MoreX w X X') : RecOk w' (fun k => k ∉ X') l :=
  ((RecOk.mono (D' := fun k => k ∉ X ∧ k ∉ X') h (fun k hk hkX => ⟨hkX, hX.out hk hkX⟩)).move hA.size (fun k hk hD => hA.block k hk hD.1)).mono (fun k _ hD => hD.2)
theorem SrOk.turn {w w' : World} {X X' : List Nat} {l : List Sr} (h : SrOk w (fun k => k ∉ X) l) (hA : Apart (fun k => k ∈ X) w w') (hX : MoreX w X X') : SrOk w' (fun k => k ∉ X') l :=
  ((SrOk.mono (D' := fun k => k ∉ X ∧ k ∉ X') h (fun k hk hkX => ⟨hkX, hX.out hk hkX⟩)).move hA.size (fun k hk hD => hA.block k hk hD.1)).mono (fun k _ hD => hD.2)
theorem RecOk.belo {w w' : World} {D : Nat → Prop} {l : List RecV} (h : RecOk w D l) (hb : Below w.heap.size w w') : RecOk w' D l := h.move hb.size (fun k hk _ => hb.block k hk)
/-- a head of the call's own, and a row of the call's own: X holds the row's block too -/
structure Ag (w0 : World) (hp B : Nat) (H : Hd) (o : HLoc) (X : List Nat) (av : Value) (bl : List RecV) (wr : World) : Prop where
  head : HeadAt wr X o H
  hp : o.hp = hp
  new : ∀ k ∈ X, w0.heap.size ≤ k
  below : Below w0.heap.size w0 wr
  own : wr.ownsRow B 62 4 av bl.length (bl.flatMap RecV.enc)
  ok : RecOk wr (fun j => j ∉ X) bl
  out : ∀ j, av.ownBlock = some j → j ∈ X ∧ j ∉ blksH o
  le : w0.heap.size ≤ B ∧ B ≤ wr.heap.size
theorem Ag.then {w0 wr w2 : World} {hp B : Nat} {H : Hd} {o : HLoc} {X : List Nat} {av : Value} {bl : List RecV} (h : Ag w0 hp B H o X av bl wr) (hb : Below wr.heap.size wr w2) : Ag w0 hp B H o X av bl w2 :=
  ⟨h.head.below hb, h.hp, h.new, bthen h.below hb, own_below h.own hb, h.ok.belo hb, h.out, ⟨h.le.1, Nat.le_trans h.le.2 hb.size⟩⟩
theorem Ag.turn {w0 wr w2 : World} {hp B : Nat} {H H' : Hd} {o o' : HLoc} {X X' : List Nat} {av : Value} {bl : List RecV} (h : Ag w0 hp B H o X av bl wr) (ht : Turned wr X o w2 X' o' H') : Ag w0 hp B H' o' X' av bl w2 := by
  have hb := fun k hk => ownsRow_blk h.own k hk
  refine ⟨ht.head, ht.hp.trans h.hp, fun k hk => (ht.more.new k hk).elim (h.new k) (fun h2 => Nat.le_trans h.below.size h2), apart_below h.below ht.apart h.new, ownsRow_move h.own (fun k hk => ht.fine.apart.block k (hb k hk).2 (h.out k hk).2), h.ok.turn ht.apart ht.more, fun j hj => ⟨ht.more.old j (h.out j hj).1, fun hm => ?_⟩, ⟨h.le.1, Nat.le_trans h.le.2 ht.apart.size⟩⟩
  rcases ht.fine.more j hm with h1 | h1
  · exact (h.out j hj).2 h1
  · have := (hb j hj).2; omega
theorem Ag.add {w0 wr w5 : World} {hp B : Nat} {H : Hd} {o : HLoc} {X : List Nat} {av v5 : Value} {bl rl : List RecV} (h : Ag w0 hp B H o X av bl wr) (hr : RecOk wr (fun j => j ∉ X) rl) (ho : w5.ownsRow B 62 4 v5 (bl.length + rl.length) (bl.flatMap RecV.enc ++ rl.flatMap RecV.enc)) (hg : wr.grownBy w5 av.ownBlock) (hv : v5.ownBlock = av.ownBlock ∨ v5.ownBlock = some wr.heap.size) :
    ∃ X5, Ag w0 hp B H o X5 v5 (bl ++ rl) w5 := by
  have hb := fun k hk => ownsRow_blk h.own k hk
  have hA : Apart (fun k => av.ownBlock = some k) wr w5 := (Apart.refl _ wr).grown hg (fun k hk => .inl hk)
  have hall : RecOk wr (fun j => j ∉ X) (bl ++ rl) := fun y hy => (List.mem_append.1 hy).elim (h.ok y) (hr y)
  have hbel : Below w0.heap.size w0 w5 := apart_below h.below hA (fun k hk => Nat.le_trans h.le.1 (hb k hk).1)
  have hown : w5.ownsRow B 62 4 v5 (bl ++ rl).length ((bl ++ rl).flatMap RecV.enc) := by simpa using ho
  rcases hv with hv | hv
  · refine ⟨X, h.head.step hA (fun k hk => (h.out k hk).1) (fun k hk hk2 => (h.out k hk2).2 hk) (fun _ h => h) (fun _ _ h => h) (fun k hk => Nat.lt_of_lt_of_le (h.head.inn.ix.lt k hk) hA.size), h.hp, h.new, hbel, hown, hall.move hA.size (fun k hk hD => hA.block k hk (fun hk2 => hD (h.out k hk2).1)), fun j hj => h.out j (hv ▸ hj), ⟨h.le.1, Nat.le_trans h.le.2 hA.size⟩⟩
  · have hlt := (ownsRow_blk hown _ hv).2
    have hx : ∀ k, k < wr.heap.size → k ∉ X → k ∉ X ++ [wr.heap.size] := fun k hk hX hm => by
      rcases List.mem_append.1 hm with hm | hm
      · exact hX hm
      · simp at hm; omega
    refine ⟨X ++ [wr.heap.size], h.head.step hA (fun k hk => (h.out k hk).1) (fun k hk hk2 => (h.out k hk2).2 hk) (fun k hk => List.mem_append_left _ hk) hx (fun k hk => ?_), h.hp, fun k hk => ?_, hbel, hown, (hall.mono (D' := fun k => k ∉ X ∧ k ∉ X ++ [wr.heap.size]) (fun k hk hD => ⟨hD, hx k hk hD⟩)).move hA.size (fun k hk hD => hA.block k hk (fun hk2 => hD.1 (h.out k hk2).1)) |>.mono (fun k _ hD => hD.2), fun j hj => ?_, ⟨h.le.1, Nat.le_trans h.le.2 hA.size⟩⟩
    · rcases List.mem_append.1 hk with hk | hk
      · exact Nat.lt_of_lt_of_le (h.head.inn.ix.lt k hk) hA.size
      · simp at hk; omega
    · rcases List.mem_append.1 hk with hk | hk
      · exact h.new k hk
      · simp at hk; have := h.below.size; omega
    · rw [hv] at hj
      cases hj
      refine ⟨List.mem_append_right _ (by simp), fun hm => ?_⟩
      have := h.head.inn.ix.lt _ (h.head.sub _ hm)
      omega
/-- with the records of a plan -/
structure AgMid (w0 : World) (hp B : Nat) (H : Hd) (o : HLoc) (X : List Nat) (av : Value) (bl : List RecV) (rv : Value) (rl : List RecV) (wr : World) : Prop where
  ag : Ag w0 hp B H o X av bl wr
  rs : Slc 4 RecV.enc wr (fun j => j ∉ X) rv rl
  rok : RecOk wr (fun j => j ∉ X) rl
theorem AgMid.then {w0 wr w2 : World} {hp B : Nat} {H : Hd} {o : HLoc} {X : List Nat} {av rv : Value} {bl rl : List RecV} (h : AgMid w0 hp B H o X av bl rv rl wr) (hb : Below wr.heap.size wr w2) : AgMid w0 hp B H o X av bl rv rl w2 := ⟨h.ag.then hb, h.rs.below hb, h.rok.belo hb⟩
theorem AgMid.turn {w0 wr w2 : World} {hp B : Nat} {H H' : Hd} {o o' : HLoc} {X X' : List Nat} {av rv : Value} {bl rl : List RecV} (h : AgMid w0 hp B H o X av bl rv rl wr) (ht : Turned wr X o w2 X' o' H') : AgMid w0 hp B H' o' X' av bl rv rl w2 := ⟨h.ag.turn ht, h.rs.turn ht.apart ht.more, h.rok.turn ht.apart ht.more⟩
theorem pts_len2 {H : Hd} {N : Nat} (hI : Inv H N) (h : Inv2 H) : H.pts.length ≤ N := by
  have h1 := (keys_perm h).length_eq
  simp only [List.length_map] at h1
  have := hI.len
  omega
/-- where the first loop stands -/
structure AgS (w : World) (hp B k : Nat) (av : Value) (wr : World) : Prop where
  ex : ∃ H o X bl C, Ag w hp B H o X av bl wr ∧ Inv H (16 * k) ∧ Holds H C ∧ (∀ x ∈ bl, Has H x.r ∧ RecFit x.r) ∧ bl.length ≤ 100 * k
end Go.Proofs.YtfjlballemibjaaDoor

/- the law HeadAgain: it returns true. -/
namespace Go.Proofs.YtfjlballemibjaaDoor
open Go.RowKit Go.Proofs.YtfjlballemibjaaDoor.MapRaw Go.ChangeMaps

theorem recall_step {recs : List Rec} {H Hj : Hd} {j : Nat} (h : RecTo recs H j Hj) {H' : Hd} (hr : recAll recs H = (0, H')) (hj : j < recs.length) : ∃ H2, recordF Hj recs[j] = (0, H2) ∧ RecTo recs H (j + 1) H2 := by
  obtain ⟨h1, h2⟩ := h.round (by rw [hr]) hj
  exact ⟨(recordF Hj recs[j]).2, Prod.ext h1 rfl, h2⟩
set_option maxRecDepth 100000 in
set_option maxHeartbeats 8000000 in
theorem law_again {D : Nat → Prop} (v : Value) (l : List Wr) (w : World) (hv : Slc 2 Wr.enc w D v l) (hl : WrOk w D l) (hT : Tabs w) (h2 : 2 ≤ w.heap.size) :
    Calls Tryd.prog 5 #[v] w fun e w' => e = .returned (.bool true) ∧ Below w.heap.size w w' := by
  have HV := Lib.hid hv
  have HL := Lib.hid hl
  have HT := Lib.hid hT
  have hlive := fun (W : World) (hW : Below w.heap.size w W) => law_live W (hT.below hW h2) (Nat.le_trans h2 hW.size)
  have HLive := Lib.hid hlive
  have hwr := fun (W : World) (hW : Below w.heap.size w W) => law_writes v l W (hv.below hW) (hl.below hW)
  obtain ⟨A, c, rfl, p1, p2, p3, p4, p5⟩ := hv
  have HR := Lib.hid p5
  obtain ⟨n, hn⟩ : ∃ n, n = l.length := ⟨_, rfl⟩
  have Hn := Lib.hid hn
  have hwf : writesF l = true → n ≤ 20 := fun h => by unfold writesF at h; simp at h; omega
  have HWf := Lib.hid hwf
  rw [← hn] at hwr ⊢
  have HWr := Lib.hid hwr
  clear hlive hwr hwf hl hT p1 p2 p3 p4 p5 hn
  by_cases hw : writesF l = false
  · rw [hw] at HWr
    clear hw
    go_enter Tryd.func5, Tryd.ntmps5
    go_wp2_with fail
    refine (HLive.out w (Below.refl _ _)).mono ?_
    rintro e w1 ⟨rfl, hb1⟩
    have HB1 := Lib.hid hb1
    clear hb1
    go_wp2_with fail
    refine (HWr.out w1 HB1.out).mono ?_
    rintro e w2 ⟨rfl, hb2⟩
    have HB2 := Lib.hid (bthen HB1.out hb2)
    clear hb2
    go_wp2_with fail
    refine (HLive.out w2 HB2.out).mono ?_
    rintro e w3 ⟨rfl, hb3⟩
    have HB3 := Lib.hid (bthen HB2.out hb3)
    clear hb3
    go_wp2_with fail
    go_ret
    exact ⟨rfl, HB3.out⟩
  · have hw' : writesF l = true := by simpa using hw
    have hn20 := HWf.out hw'
    rw [hw'] at HWr
    clear hw hw'
    go_enter Tryd.func5, Tryd.ntmps5
    go_wp2_with fail
    refine (HLive.out w (Below.refl _ _)).mono ?_
    rintro e w1 ⟨rfl, hb1⟩
    have HB1 := Lib.hid hb1
    clear hb1
    go_wp2_with fail
    refine (HWr.out w1 HB1.out).mono ?_
    rintro e w2 ⟨rfl, hb2⟩
    have HB2 := Lib.hid (bthen HB1.out hb2)
    have hnew := head_new w2
    unfold HNewPost at hnew
    have HNew := Lib.hid hnew
    clear hb2 hnew
    go_wp2_with fail
    refine HNew.out.mono ?_
    rintro e w3 ⟨o, X, rfl, hh, hx, hb⟩
    have hB3 := bthen HB2.out hb
    have hS : AgS w o.hp w3.heap.size 0 (.slice none 0 0) w3 := ⟨⟨H0, o, X, [], [], ⟨hh, rfl, fun k hk => Nat.le_trans HB2.out.size (hx k hk), hB3, ⟨by simp, .inl ⟨rfl, by simp⟩⟩, fun x hx => by simp at hx, fun j hj => (by cases hj), ⟨hB3.size, Nat.le_refl _⟩⟩, Inv.start, Holds.start, fun x hx => by simp at hx, by simp⟩⟩
    have HS := Lib.hid hS
    clear hh hx hb HNew hB3 hS
    generalize o.hp = hp at *
    generalize w3.heap.size = B at *
    go_wp2_with fail
    go_loopw [4, 28] (fun av i wr => ∃ k : Nat, k ≤ n ∧ i = .int .i64 k ∧ AgS w hp B k av wr) (fun _ i _ => n - (intOf i).toNat)
    case atStart => exact ⟨0, Nat.zero_le _, rfl, HS.out⟩
    case round =>
      obtain ⟨k, hk, rfl, hE⟩ := hrel
      obtain ⟨H, o', X', bl, C, hA, hI, hC, hbl, hlen⟩ := hE.ex
      obtain ⟨Av, cv, rfl⟩ := own_slice hA.own
      have HAll := Lib.hid hbl
      by_cases hlt : k < n
      · have hkl : k < l.length := by rw [← Hn.out]; exact hlt
        obtain ⟨b, off, rfl, z0, z1⟩ := rdW_at (Rd.below HR.out hA.below) hkl
        have hx := HL.out _ (List.getElem_mem hkl)
        have hstep := again_step hI (by omega) hC l[k]
        generalize l[k] = x at *
        obtain ⟨seq, pv, posts⟩ := x
        simp only at z0 z1 hx hstep
        have hbw : Below wr.heap.size wr (wr.alloc (.cells #[.int .u64 seq, pv] 30)) := balloc (Below.refl _ _) _
        have hAa := hA.then hbw
        have hplan := head_plan seq pv posts _ hAa.head (hx.1.below hAa.below) (hx.2.below hAa.below) (HT.out.below hAa.below h2) (Nat.le_trans h2 hAa.below.size) (show 0 ≤ H.top ∧ H.top ≤ 4294967295 from ⟨hI.top.1, by have := hI.top.2; omega⟩) (by have := hI.len; omega)
        rw [hAa.hp] at hplan
        unfold PlanPost at hplan
        have HPlan := Lib.hid hplan
        have HAa := Lib.hid hAa
        obtain ⟨⟨Ap, cp, rfl, -⟩, -⟩ := hx
        generalize posts.length = np at *
        have HI := Lib.hid hI
        have HC := Lib.hid hC
        have HLen := Lib.hid hlen
        rcases hstep with ⟨q, hq, hp0⟩ | ⟨recs, marks, H', C', hd, hC', hmono, hnewr⟩
        · rw [hp0] at HPlan
          have hq' : (q != 0) = true := by simpa using hq
          clear hq hp0 hplan hAa hbw hE hA hI hC hbl hlen
          go_wp2_with fail
          refine HPlan.out.mono ?_
          rintro e w4 ⟨rv, mv, rl, rfl, hr1, hr2, hr3, hm, hb⟩
          obtain ⟨A1, c1, rfl, -⟩ := hr1
          obtain ⟨A2, c2, rfl, -⟩ := hm
          have HA4 := Lib.hid (HAa.out.then hb)
          clear hr2 hr3 hb HPlan
          go_wp2_with fail
          go_roundw
          case rel => exact ⟨k + 1, by omega, by go_num, ⟨⟨H, o', X', bl, C, HA4.out, HI.out.mono (by omega), HC.out, HAll.out, by have := HLen.out; omega⟩⟩⟩
          case measure => simp [intOf] <;> omega
        · rw [hd.plan] at HPlan
          have HD := Lib.hid hd
          have HC' := Lib.hid hC'
          have HMono := Lib.hid hmono
          have HNewR := Lib.hid hnewr
          clear hplan hAa hbw hE hA hI hC hbl hlen hd hC' hmono hnewr
          go_wp2_with fail
          refine HPlan.out.mono ?_
          rintro e w4 ⟨rv, mv, rl, rfl, hr1, hr2, hr3, hm, hb⟩
          have hA4 := HAa.out.then hb
          have toX : ∀ {α : Type} {sz : Nat} {enc : α → List Value} {v : Value} {l : List α}, Slc sz enc w4 (fun k => (wr.alloc (.cells #[.int .u64 seq, .slice Ap np cp] 30)).heap.size ≤ k) v l → Slc sz enc w4 (fun k => k ∉ X') v l :=
            fun h => Slc.mono h (fun k _ hk2 hm => by have := HAa.out.head.inn.ix.lt k hm; omega)
          have hmid : AgMid w hp B H o' X' (.slice Av bl.length cv) bl rv rl w4 := ⟨hA4, toX hr1, fun x hx => ⟨toX (hr2 x hx).1, toX (hr2 x hx).2⟩⟩
          have HMid := Lib.hid hmid
          have Hr3 := Lib.hid hr3
          obtain ⟨Ar, cr, rfl, -⟩ := hr1
          obtain ⟨Am, cm, rfl, -⟩ := hm
          obtain ⟨m, hm2⟩ : ∃ m, m = rl.length := ⟨_, rfl⟩
          have Hm := Lib.hid hm2
          have hmr : recs.length = m := by rw [hm2, ← hr3, List.length_map]
          have hm100 : m ≤ 100 := by rw [← hmr]; exact HD.out.recs
          have Hmr := Lib.hid hmr
          rw [← hm2] at HMid ⊢
          generalize marks.length = lm at *
          clear hr2 hr3 hb hA4 toX hmid hm2 hmr HPlan
          go_wp2_with fail
          go_loopw [46] (fun i wi => ∃ (j : Nat) (Hj : Hd) (oj : HLoc) (Xj : List Nat), j ≤ m ∧ i = .int .i64 j ∧ RecTo recs H j Hj ∧ AgMid w hp B Hj oj Xj (.slice Av bl.length cv) bl (.slice Ar m cr) rl wi) (fun i _ => m - (intOf i).toNat)
          case atStart => exact ⟨0, H, o', X', Nat.zero_le _, rfl, RecTo.start _ _, HMid.out⟩
          case round =>
            obtain ⟨j, Hj, oj, Xj, hj, rfl, hE, hMj⟩ := hrel
            by_cases hjl : j < m
            · have hjr : j < rl.length := by rw [← Hm.out]; exact hjl
              have hjs : j < recs.length := by rw [Hmr.out]; exact hjl
              obtain ⟨_, _, e4, -, -, -, -, hR4⟩ := id hMj.rs
              cases e4
              obtain ⟨br, offr, rfl, y0, y1, y2, y3⟩ := rdR_at hR4 hjr
              have hxo := hMj.rok _ (List.getElem_mem hjr)
              have hxr : rl[j].r = recs[j] := by
                have := congrArg (fun l => l[j]?) Hr3.out
                simp [List.getElem?_eq_getElem hjr, List.getElem?_eq_getElem hjs] at this
                exact this
              have hfit := HD.out.fit _ (List.getElem_mem hjs)
              obtain ⟨H2, hr0, hE2⟩ := recall_step hE HD.out.rec_ hjs
              rw [← hxr] at hfit hr0
              generalize rl[j] = x at *
              obtain ⟨r, lv, pv⟩ := x
              simp only at y0 y1 y2 y3 hxo hfit hr0
              have hbw : Below wr.heap.size wr (wr.alloc (.cells #[.int .i64 r.kind, .int .u32 r.ref, lv, pv] 62)) := balloc (Below.refl _ _) _
              have hMa := hMj.then hbw
              have hrec := head_record r lv pv _ hMa.ag.head (hxo.1.below hbw) (hxo.2.below hbw) hfit.2.1 (HT.out.below hMa.ag.below h2) (Nat.le_trans h2 hMa.ag.below.size) hfit.1 hfit.2.2
              rw [hMa.ag.hp, hr0] at hrec
              have HRc := Lib.hid hrec
              have HMa := Lib.hid hMa
              have HE2 := Lib.hid hE2
              obtain ⟨⟨Al, cl, rfl, -⟩, ⟨Ap2, cp2, rfl, -⟩⟩ := hxo
              generalize r.lab.length = nlab at *
              generalize r.pts.length = npts at *
              clear hrec hMj hMa hbw hfit hE hE2 hxr hr0 hR4
              go_wp2_with fail
              refine HRc.out.mono ?_
              rintro e w5 ht
              obtain ⟨o2, X2, hT2⟩ := (Turned.start HMa.out.ag.head).record ht
              have he := ht.1
              subst he
              have HM2 := Lib.hid (HMa.out.turn hT2)
              clear ht hT2 HRc
              go_wp2_with fail
              go_roundw
              case rel => exact ⟨j + 1, H2, o2, X2, by omega, by go_num, HE2.out, HM2.out⟩
              case measure => simp [intOf] <;> omega
            · have hdn := hE.done (by rw [Hmr.out]; exact hjl)
              have hHj : Hj = H' := by rw [HD.out.rec_] at hdn; exact (Prod.mk.inj hdn).2.symm
              subst hHj
              have HMj := Lib.hid hMj
              have hl1 := HLen.out
              have hsrc := recs_src hMj.rs hMj.rok
              rw [← Hm.out] at hsrc
              have HSrc := Lib.hid hsrc
              clear hdn hE hMj hsrc
              go_wp2_with (at_builtin; refine wpList_app (w0 := wr) B rfl _ _ 56 62 _ 4 64 m (rl.flatMap RecV.enc) rfl Tryd.underlying56 info_rec rfl (by decide) (by decide) (.slice Av bl.length cv) bl.length (bl.flatMap RecV.enc) ?hs ?hx HMj.out.ag.own (Below.refl _ _) HMj.out.ag.le.2 (by omega) ?_)
              case hs => rfl
              case hx => exact HSrc.out
              intro v5 w5 hO5 hB5 hg5 hat5
              obtain ⟨A5, c5, rfl⟩ := own_slice hO5
              rw [Hm.out] at hO5 hat5
              obtain ⟨X5, hA5⟩ := HMj.out.ag.add HMj.out.rok hO5 hg5 hat5
              have HA5 := Lib.hid hA5
              clear hO5 hB5 hg5 hat5 hA5
              go_wp2_with fail
              go_roundw
              case rel =>
                refine ⟨k + 1, by omega, by go_num, ⟨⟨Hj, oj, X5, bl ++ rl, C', ?_, HD.out.inv, HC'.out, fun x hx => ?_, ?_⟩⟩⟩
                · rw [Hm.out]; exact HA5.out
                · rcases List.mem_append.1 hx with hx | hx
                  · exact ⟨HMono.out _ (HAll.out x hx).1, (HAll.out x hx).2⟩
                  · have hm : x.r ∈ recs := by rw [← Hr3.out]; exact List.mem_map_of_mem hx
                    exact ⟨HNewR.out _ hm, HD.out.fit _ hm⟩
                · rw [List.length_append, ← Hm.out]; omega
              case measure => simp [intOf] <;> omega
      · have hkn : k = n := by omega
        subst hkn
        have hpl : H.pts.length ≤ 1000000 := by have := pts_len2 hI hC.inv2; omega
        have hag : ∀ x ∈ bl, recordF H x.r = (0, H) := fun x hx => (hbl x hx).1.again hI (by omega) hC.inv2
        have HAg := Lib.hid hag
        have hall := head_all wr hA.head hpl
        rw [hA.hp] at hall
        unfold AllPost at hall
        have HA := Lib.hid hA
        have HAl := Lib.hid hall
        have Hpl := Lib.hid hpl
        obtain ⟨m, hm⟩ : ∃ m, m = bl.length := ⟨_, rfl⟩
        have Hm := Lib.hid hm
        rw [← hm] at HA hlen ⊢
        clear hE hA hI hC hbl hpl hag hall hm
        go_wp2_with fail
        refine HAl.out.mono ?_
        rintro e w7 ⟨sv, sl, rfl, hs1, hs2, hs3, hb7⟩
        have hA7 := HA.out.then hb7
        have hout : ∀ k, k < w7.heap.size → wr.heap.size ≤ k → k ∉ X' := fun k _ hk hm => by have := HA.out.head.inn.ix.lt k hm; omega
        have HSt : Hid (∃ (o : HLoc) (X : List Nat), Ag w hp B H o X (.slice Av m cv) bl w7 ∧ Slc 3 Sr.enc w7 (fun j => j ∉ X) sv sl ∧ SrOk w7 (fun j => j ∉ X) sl) := Lib.hid ⟨o', X', hA7, hs1.mono hout, hs2.mono hout⟩
        have HK := Lib.hid hs3
        obtain ⟨As, cs, rfl, -⟩ := hs1
        generalize sl.length = ns at *
        clear hs2 hs3 hb7 hA7 hout HAl HA
        go_wp2_with fail
        go_loopw [63] (fun i wx => ∃ j : Nat, j ≤ m ∧ i = .int .i64 j ∧ ∃ (o : HLoc) (X : List Nat), Ag w hp B H o X (.slice Av m cv) bl wx ∧ Slc 3 Sr.enc wx (fun j => j ∉ X) (.slice As ns cs) sl ∧ SrOk wx (fun j => j ∉ X) sl) (fun i _ => m - (intOf i).toNat)
        case atStart => exact ⟨0, Nat.zero_le _, rfl, HSt.out⟩
        case round =>
          obtain ⟨j, hj, rfl, oj, Xj, hAj, hSj, hOj⟩ := hrel
          by_cases hjl : j < m
          · have hjb : j < bl.length := by rw [← Hm.out]; exact hjl
            obtain ⟨_, _, e4, -, -, -, -, hR4⟩ := own_slc recV_len rfl hAj.own
            cases e4
            obtain ⟨br, offr, rfl, y0, y1, y2, y3⟩ := rdR_at hR4 hjb
            have hxo := hAj.ok _ (List.getElem_mem hjb)
            have hr0 := HAg.out _ (List.getElem_mem hjb)
            have hfit := (HAll.out _ (List.getElem_mem hjb)).2
            generalize bl[j] = x at *
            obtain ⟨r, lv, pv⟩ := x
            simp only at y0 y1 y2 y3 hxo hfit hr0
            have hbw : Below wr.heap.size wr (wr.alloc (.cells #[.int .i64 r.kind, .int .u32 r.ref, lv, pv] 62)) := balloc (Below.refl _ _) _
            have hAa := hAj.then hbw
            have hrec := head_record r lv pv _ hAa.head (hxo.1.below hbw) (hxo.2.below hbw) hfit.2.1 (HT.out.below hAa.below h2) (Nat.le_trans h2 hAa.below.size) hfit.1 hfit.2.2
            rw [hAa.hp, hr0] at hrec
            have HRc := Lib.hid hrec
            have HAa := Lib.hid hAa
            have HSa := Lib.hid (hSj.below hbw)
            have HOa := Lib.hid (hOj.below hbw)
            obtain ⟨⟨Al, cl, rfl, -⟩, ⟨Ap2, cp2, rfl, -⟩⟩ := hxo
            generalize r.lab.length = nlab at *
            generalize r.pts.length = npts at *
            clear hrec hAj hSj hOj hAa hbw hfit hr0 hR4
            go_wp2_with fail
            refine HRc.out.mono ?_
            rintro e w5 ht
            obtain ⟨o2, X2, hT2⟩ := (Turned.start HAa.out.head).record ht
            have he := ht.1
            subst he
            have hA2 := HAa.out.turn hT2
            have hS2 := HSa.out.turn hT2.apart hT2.more
            have hO2 := HOa.out.turn hT2.apart hT2.more
            have hall := head_all w5 hA2.head Hpl.out
            rw [hA2.hp] at hall
            unfold AllPost at hall
            have HAl := Lib.hid hall
            have HA2 := Lib.hid hA2
            have HS2 := Lib.hid hS2
            have HO2 := Lib.hid hO2
            clear ht hT2 HRc hA2 hS2 hO2 hall
            go_wp2_with fail
            refine HAl.out.mono ?_
            rintro e w6 ⟨tv, tl, rfl, ht1, ht2, ht3, hb6⟩
            have hsame := ref14_same tv (.slice As ns cs) tl sl w6 ht1 (HS2.out.below hb6) ht2 (HO2.out.below hb6) (by rw [ht3, HK.out])
            have HSame := Lib.hid hsame
            have HB6 := Lib.hid hb6
            obtain ⟨At, ct, rfl, -⟩ := ht1
            generalize tl.length = nt at *
            clear ht2 ht3 hb6 hsame HAl
            go_wp2_with fail
            refine HSame.out.mono ?_
            rintro e w8 ⟨rfl, hb8⟩
            have hb68 := bthen HB6.out hb8
            have HNext := Lib.hid (show ∃ (o : HLoc) (X : List Nat), Ag w hp B H o X _ bl w8 ∧ Slc 3 Sr.enc w8 (fun j => j ∉ X) (.slice As ns cs) sl ∧ SrOk w8 (fun j => j ∉ X) sl from ⟨o2, X2, HA2.out.then hb68, HS2.out.below hb68, HO2.out.below hb68⟩)
            clear hb8 hb68
            go_wp2_with fail
            go_roundw
            case rel => exact ⟨j + 1, by omega, by go_num, HNext.out⟩
            case measure => simp [intOf] <;> omega
          · have HB := Lib.hid hAj.below
            clear hAj hSj hOj
            go_wp2_with fail
            go_ret
            exact ⟨rfl, HB.out⟩
end Go.Proofs.YtfjlballemibjaaDoor
