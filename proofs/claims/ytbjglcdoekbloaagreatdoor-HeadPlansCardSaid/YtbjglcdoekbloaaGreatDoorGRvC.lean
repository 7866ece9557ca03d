import Derived.Test.YtbjglcdoekbloaaGreatDoorGRvB
import Derived.Test.YtbjglcdoekbloaaGreatDoorGPtsC
import Derived.Test.YtbjglcdoekbloaaGreatDoorGHdA
set_option linter.unusedSimpArgs false
set_option linter.unusedVariables false
set_option linter.unusedSectionVars false
/- the reference's points: copied, Ahead, least. -/
namespace Go.Proofs.YtbjglcdoekbloaaGreatDoor
open Go.RowKit

/-- a row of the call's own -/
def OwnPost (w : World) (l : List Pt) (e : Ending) (w' : World) : Prop := ∃ v, e = .returned v ∧ w'.ownsRow w.heap.size 68 3 v l.length (l.flatMap Pt.enc) ∧ Below w.heap.size w w'
set_option maxRecDepth 100000 in
set_option maxHeartbeats 400000 in
theorem ref09_copied {D : Nat → Prop} (v : Value) (l : List Pt) (w : World) (hv : SlP w D v l) (hl : l.length ≤ 1000000) :
    Calls Tryz.prog 87 #[v] w (OwnPost w l) := by
  have hsrc := hv.src pt_len pt_one (by decide)
  obtain ⟨A, c, rfl, h1, h2, h3, h4, h5⟩ := hv
  obtain ⟨n, hn⟩ : ∃ n, n = l.length := ⟨_, rfl⟩
  rw [← hn] at hl hsrc ⊢
  have Hn := Lib.hid hn
  have Hs := Lib.hid (SrcAt.below hsrc (balloc (Below.refl _ _) (.cells #[] 68)))
  clear h1 h2 h3 h4 h5 hn hsrc
  go_enter Tryz.func87, Tryz.ntmps87
  go_wp2_with (at_builtin; refine wpList_app (w0 := w) w.heap.size rfl _ _ 54 68 _ 3 24 n (l.flatMap Pt.enc) rfl Tryz.underlying54 info_pt rfl (by decide) (by decide) (.slice (some ⟨w.heap.size, 0, none⟩) 0 0) 0 [] ?hs ?hx (World.ownsRow_lit w #[] 0 (Nat.le_refl _) (by decide) rfl) (balloc (Below.refl _ _) _) (by simp) (by omega) ?_)
  case hs => rfl
  case hx => exact Hs.out
  intro v1 w5 hO hB5 hg5 hat5
  have hO' : w5.ownsRow w.heap.size 68 3 v1 n (l.flatMap Pt.enc) := by simpa using hO
  go_wp2
  go_ret
  exact ⟨_, rfl, by rw [← Hn.out]; exact hO', hB5⟩
set_option maxHeartbeats 1000000 in
theorem ref09_ahead (p q : Pt) (w : World) :
    Calls Tryz.prog 89 #[.agg #[.int .i64 p.T, .int .u64 p.V, .int .u64 p.S], .agg #[.int .i64 q.T, .int .u64 q.V, .int .u64 q.S]] w fun e w' => e = .returned (.bool (aheadB p q)) ∧ Below w.heap.size w w' := by
  by_cases h0 : p.S < q.S
  · have h1 : decide (p.S < q.S) = true := decide_eq_true h0
    have e : aheadB p q = true := by
      have : ¬ p.S = q.S := by omega
      simp [aheadB, this, h0]
    rw [e]
    clear e
    go_enter Tryz.func89, Tryz.ntmps89
    go_wp2
    go_ret
    exact ⟨rfl, balloc (balloc (Below.refl _ _) _) _⟩
  · have h1 : decide (p.S < q.S) = false := decide_eq_false h0
    by_cases h2 : p.S = q.S
    · have h3 : (p.S == q.S) = true := by simpa using h2
      have e : aheadB p q = decide (p.V < q.V) := by simp [aheadB, h2]
      rw [e]
      clear e h2 h0
      go_enter Tryz.func89, Tryz.ntmps89
      go_wp2
      go_ret
      exact ⟨rfl, balloc (balloc (Below.refl _ _) _) _⟩
    · have h3 : (p.S == q.S) = false := by simpa using h2
      have e : aheadB p q = false := by simp [aheadB, h2, h0]
      rw [e]
      clear e h2 h0
      go_enter Tryz.func89, Tryz.ntmps89
      go_wp2
      go_ret
      exact ⟨rfl, balloc (balloc (Below.refl _ _) _) _⟩
end Go.Proofs.YtbjglcdoekbloaaGreatDoor

/- the reference's points: least. -/
namespace Go.Proofs.YtbjglcdoekbloaaGreatDoor
open Go.RowKit

def leastP (p q : Pt) : Pt := if aheadB p q = true then p else q
set_option maxHeartbeats 1000000 in
theorem ref09_least (p q : Pt) (w : World) :
    Calls Tryz.prog 88 #[.agg #[.int .i64 p.T, .int .u64 p.V, .int .u64 p.S], .agg #[.int .i64 q.T, .int .u64 q.V, .int .u64 q.S]] w fun e w' => e = .returned (.agg #[.int .i64 (leastP p q).T, .int .u64 (leastP p q).V, .int .u64 (leastP p q).S]) ∧ Below w.heap.size w w' := by
  have HA := Lib.hid (ref09_ahead p q)
  obtain ⟨b, hb⟩ : ∃ b, aheadB p q = b := ⟨_, rfl⟩
  have hl : leastP p q = if b = true then p else q := by unfold leastP; rw [hb]
  rw [hl]
  rw [hb] at HA
  clear hl hb
  cases b
  all_goals
    go_enter Tryz.func88, Tryz.ntmps88
    go_wp2_with fail
    refine (HA.out _).mono ?_
    rintro e w1 ⟨rfl, hb⟩
    have zp : w1.heap[w.heap.size]? = some (.cells #[.int .i64 p.T, .int .u64 p.V, .int .u64 p.S] 68 (0, 0)) := blk_below (blk_below (blk_below (blk_new w _) (balloc (Below.refl _ _) _)) (balloc (Below.refl _ _) _)) hb
    have zq : w1.heap[w.heap.size + 1]? = some (.cells #[.int .i64 q.T, .int .u64 q.V, .int .u64 q.S] 68 (0, 0)) := by
      have := blk_new (w.alloc (.cells #[.int .i64 p.T, .int .u64 p.V, .int .u64 p.S] 68)) (.cells #[.int .i64 q.T, .int .u64 q.V, .int .u64 q.S] 68)
      rw [World.size_alloc] at this
      exact blk_below (blk_below this (balloc (Below.refl _ _) _)) hb
    have z : w1.heap[w.heap.size + 1 + 1]? = some (.cells #[.int .i64 0, .int .u64 0, .int .u64 0] 68 (0, 0)) := by
      have := blk_new ((w.alloc (.cells #[.int .i64 p.T, .int .u64 p.V, .int .u64 p.S] 68)).alloc (.cells #[.int .i64 q.T, .int .u64 q.V, .int .u64 q.S] 68)) (.cells #[.int .i64 0, .int .u64 0, .int .u64 0] 68)
      rw [World.size_alloc, World.size_alloc] at this
      exact blk_below this hb
    have p0 := blk_cell zp 0
    have p1 := blk_cell zp 1
    have p2 := blk_cell zp 2
    have q0 := blk_cell zq 0
    have q1 := blk_cell zq 1
    have q2 := blk_cell zq 2
    simp at p0 p1 p2 q0 q1 q2
    have z0 := blk_cell z 0
    have z1 := blk_cell z 1
    have z2 := blk_cell z 2
    have f0 := free_blk (i := 0) z
    have f1 := free_blk (i := 1) z
    have f2 := free_blk (i := 2) z
    simp at z0 z1 z2
    go_wp2
    (try simp only [Exit.inBlock, Exit.then])
    refine bodyPost_ret (results_cell_row rfl _ _ (w.heap.size + 1 + 1) 68 _ (0, 0) _ rfl (setCell_blk (i := 2) _ (setCell_blk (i := 1) _ (setCell_blk (i := 0) _ z))) Tryz.underlying68 rfl (show _ = some 3 from by kernel_rfl)) rfl ?_
    exact ⟨rfl, (((bthen (balloc (balloc (balloc (Below.refl _ _) _) _) _) hb).setCell (show w.heap.size ≤ w.heap.size + 1 + 1 by omega) _).setCell (show w.heap.size ≤ w.heap.size + 1 + 1 by omega) _).setCell (show w.heap.size ≤ w.heap.size + 1 + 1 by omega) _⟩
end Go.Proofs.YtbjglcdoekbloaaGreatDoor
