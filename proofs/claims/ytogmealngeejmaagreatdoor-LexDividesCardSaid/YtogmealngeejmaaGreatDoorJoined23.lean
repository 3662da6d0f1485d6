import Derived.Test.YtogmealngeejmaaGreatDoorJoined21
/- Spell; the run over pieces. -/
namespace Go.Proofs.YtogmealngeejmaaGreatDoor
open Go Go.RowKit

set_option maxRecDepth 100000 in
set_option maxHeartbeats 1000000 in
theorem spell_c (x : Tok) (w : World) (hm : ∃ m, w.cell? ⟨0, 0, none⟩ = some (.int .i64 m)) (hsz : x.text.length ≤ 1100000) :
    Calls Tryz.prog 16 #[encTk x] w fun e w' => e = .returned (.tuple #[.string ⟨(if Lx.right x then Lx.spelled x else []).toArray⟩, .int .i64 (if Lx.right x then 0 else 13)]) ∧ Kp [] w w' := by
  obtain ⟨P0, hP0⟩ : ∃ P0 : Ending → World → Prop, P0 = fun e w' => e = .returned (.tuple #[.string ⟨(if Lx.right x then Lx.spelled x else []).toArray⟩, .int .i64 (if Lx.right x then 0 else 13)]) ∧ Kp [] w w' := ⟨_, rfl⟩
  rw [← hP0]
  have HP0 := Lib.hid hP0; clear hP0
  have hR := right_c x
  have hS := spelled_c x
  unfold encTk at hR hS ⊢
  go_enter Tryz.func16, Tryz.ntmps16
  go_wp2_with fail
  obtain ⟨w1, hw1⟩ : ∃ w1, w1 = w.alloc (.cells #[.int .i64 x.kind, .string ⟨x.text.toArray⟩, .int .i64 x.line, .int .i64 x.col] 34) := ⟨_, rfl⟩
  have hkw : Kp [] w w1 := by rw [hw1]; exact (Kp.refl [] w).alloc _
  have hbl : w1.heap[w.heap.size]? = some (.cells #[.int .i64 x.kind, .string ⟨x.text.toArray⟩, .int .i64 x.line, .int .i64 x.col] 34 (0, 0)) := by rw [hw1]; exact heap_alloc_new w _
  rw [← hw1]
  clear hw1
  refine (hR w1 hsz).mono ?_
  rintro e w2 ⟨hk2, rfl⟩
  have hk3 := hkw.trans hk2
  have hb2 := hk2.heap hbl (by simp)
  have c0 : w2.cell? ⟨w.heap.size, 0, none⟩ = some (.int .i64 x.kind) := cell_of_block hb2 0
  have c1 : w2.cell? ⟨w.heap.size, 1, none⟩ = some (.string ⟨x.text.toArray⟩) := cell_of_block hb2 1
  have c2 : w2.cell? ⟨w.heap.size, 2, none⟩ = some (.int .i64 x.line) := cell_of_block hb2 2
  have c3 : w2.cell? ⟨w.heap.size, 3, none⟩ = some (.int .i64 x.col) := cell_of_block hb2 3
  have hm2 : ∃ m, w2.cell? ⟨0, 0, none⟩ = some (.int .i64 m) := by
    obtain ⟨m, hm⟩ := hm
    exact ⟨m, (hk3.cell (p := ⟨0, 0, none⟩) (World.block_lt_of_cell? w _ hm) (by simp)).trans hm⟩
  have HM := Lib.hid hm2; clear hm2 hm
  have HK := Lib.hid hk3; clear hk3 hk2 hkw hbl hb2
  have HS := Lib.hid hS; clear hS hR
  cases hr : Lx.right x
  · rw [hr] at HP0
    have HRR := Lib.hid hr; clear hr
    go_wp2_with fail
    rw [HP0.out]
    exact ⟨rfl, HK.out⟩
  · rw [hr] at HP0
    have HRR := Lib.hid hr; clear hr
    go_wp2_with fail
    refine (HS.out w2 HM.out hsz).mono ?_
    rintro e w3 ⟨rfl, hk⟩
    have HK3 := Lib.hid (HK.out.trans hk); clear hk
    go_wp2_with fail
    rw [HP0.out]
    exact ⟨rfl, HK3.out⟩

/-- How many elements at the head are so. -/
def runOf {α : Type} (p : α → Bool) (l : List α) : Int := ((l.takeWhile p).length : Nat)

theorem runOf_some {α : Type} {p : α → Bool} {l : List α} {k : Nat} {x : α} (h : ∀ j y, j < k → l[j]? = some y → p y = true) (hx : l[k]? = some x) (hp : p x = false) : runOf p l = k := by
  unfold runOf
  induction l generalizing k with
  | nil => simp at hx
  | cons b l ih =>
    cases k with
    | zero => simp at hx; subst hx; simp [hp]
    | succ k =>
      have hb : p b = true := h 0 b (by omega) rfl
      rw [List.takeWhile_cons, if_pos hb]
      have := ih (k := k) (fun j y hj hy => h (j + 1) y (by omega) (by simpa using hy)) (by simpa using hx)
      simp only [List.length_cons]
      omega

theorem runOf_none {α : Type} {p : α → Bool} {l : List α} (h : ∀ j y, j < l.length → l[j]? = some y → p y = true) : runOf p l = l.length := by
  unfold runOf
  have : ∀ l : List α, (∀ x, x ∈ l → p x = true) → l.takeWhile p = l := by
    intro l
    induction l with
    | nil => intro _; rfl
    | cons b l ih => intro h; rw [List.takeWhile_cons, if_pos (h b (by simp)), ih fun x hx => h x (by simp [hx])]
  rw [this l fun x hx => by
    obtain ⟨j, hj, rfl⟩ := List.getElem_of_mem hx
    exact h j _ hj (by simp [hj])]

set_option maxRecDepth 100000 in
set_option maxHeartbeats 1000000 in
theorem runPc_c (l : List Lx.Pc) (v : Value) (w : World) (hr : Rd w v 6 cellsPc l) (hl : l.length ≤ 1100000) (p : Lx.Pc → Bool) (cf : FuncId) (cap : Array Value)
    (hent : ∀ args w, (callFunc cf args).run Tryz.prog w = .ok (.enter cf args) w)
    (hc : ∀ x wr, Kp [] w wr → Calls Tryz.prog cf (#[encPc x] ++ cap) wr fun e w' => e = .returned (.bool (p x)) ∧ Kp [] wr w') :
    Calls Tryz.prog 56 #[v, .func (.func cf) #[] cap] w fun e w' => e = .returned (.int .i64 (runOf p l)) ∧ Kp [] w w' := by
  obtain ⟨P0, hP0⟩ : ∃ P0 : Ending → World → Prop, P0 = fun e w' => e = .returned (.int .i64 (runOf p l)) ∧ Kp [] w w' := ⟨_, rfl⟩
  rw [← hP0]
  have HP0 := Lib.hid hP0; clear hP0
  have HCC := Lib.hid hc; clear hc
  by_cases hne : l = []
  · subst hne
    obtain ⟨_, ⟨⟨bE, cE, rfl⟩, _⟩ | ⟨g, off, cp, cur, e, z, rfl, _, _⟩⟩ := hr
    all_goals
      go_enter Tryz.func56, Tryz.ntmps56
      go_wp2_with fail
      go_loopg [5] 0 (fun n x wr => x = .int .i64 0 ∧ wr = w)
      case atStart => exact ⟨rfl, rfl⟩
      case round =>
        obtain ⟨rfl, rfl⟩ := hrel
        go_wp2_with fail
        rw [HP0.out]
        exact ⟨rfl, Kp.refl _ _⟩
  · obtain ⟨g, off, cp, rfl, hglt, hcell⟩ := hr.cells hne
    have HC := Lib.hid hcell; clear hcell hr
    go_enter Tryz.func56, Tryz.ntmps56
    go_wp2_with fail
    go_loopg [5] l.length (fun n x wr => ∃ k : Nat, n = l.length - k ∧ x = .int .i64 k ∧ k ≤ l.length ∧ Hid (∀ j y, j < k → l[j]? = some y → p y = true) ∧ Kp [] w wr)
    case atStart => exact ⟨0, rfl, rfl, Nat.zero_le _, fun j y hj => by omega, Kp.refl _ _⟩
    case round =>
      obtain ⟨k, rfl, rfl, hk, hall, hkp⟩ := hrel
      by_cases hkl : k = l.length
      · subst hkl
        have hb : decide ((l.length : Int) < l.length) = false := by simp
        go_wp2_with fail
        rw [HP0.out]
        exact ⟨by rw [runOf_none hall.out]; rfl, hkp⟩
      · have hkl' : k < l.length := by omega
        have hb : decide ((k : Int) < l.length) = true := by simpa using hkl'
        obtain ⟨x, hx⟩ : ∃ x, l[k]? = some x := ⟨l[k], by simp [hkl']⟩
        have c0 : wr.cell? ⟨g, off + k * 6, none⟩ = some (.int .i64 x.kind) := (hkp.cell (p := ⟨g, _, none⟩) hglt (by simp)).trans (HC.out k x 0 _ hx rfl)
        have c1 : wr.cell? ⟨g, off + k * 6 + 1, none⟩ = some (.string ⟨x.text.toArray⟩) := (hkp.cell (p := ⟨g, _, none⟩) hglt (by simp)).trans (HC.out k x 1 _ hx rfl)
        have c2 : wr.cell? ⟨g, off + k * 6 + 2, none⟩ = some (.int .i64 x.line) := (hkp.cell (p := ⟨g, _, none⟩) hglt (by simp)).trans (HC.out k x 2 _ hx rfl)
        have c3 : wr.cell? ⟨g, off + k * 6 + 3, none⟩ = some (.int .i64 x.col) := (hkp.cell (p := ⟨g, _, none⟩) hglt (by simp)).trans (HC.out k x 3 _ hx rfl)
        have c4 : wr.cell? ⟨g, off + k * 6 + 4, none⟩ = some (.int .i64 x.frm) := (hkp.cell (p := ⟨g, _, none⟩) hglt (by simp)).trans (HC.out k x 4 _ hx rfl)
        have c5 : wr.cell? ⟨g, off + k * 6 + 5, none⟩ = some (.int .i64 x.to) := (hkp.cell (p := ⟨g, _, none⟩) hglt (by simp)).trans (HC.out k x 5 _ hx rfl)
        have HX := Lib.hid hx; clear hx
        go_wp2_with fail
        refine (HCC.out x wr hkp).mono ?_
        rintro e w2 ⟨rfl, hk2⟩
        have HK2 := Lib.hid (hkp.trans hk2); clear hk2 hkp
        cases hq : p x
        · have HQ := Lib.hid hq; clear hq
          go_wp2_with fail
          rw [HP0.out]
          exact ⟨by rw [runOf_some hall.out HX.out HQ.out]; rfl, HK2.out⟩
        · have HQ := Lib.hid hq; clear hq
          go_wp2_with fail
          go_roundg (l.length - (k + 1))
          case measure => omega
          case rel =>
            refine ⟨k + 1, rfl, by simp, by omega, fun j y hj hy => ?_, HK2.out⟩
            by_cases hjk : j < k
            · exact hall.out j y hjk hy
            · obtain rfl : j = k := by omega
              rw [HX.out] at hy; cases hy; exact HQ.out

set_option maxRecDepth 100000 in
set_option maxHeartbeats 1000000 in
theorem edit1_c (x : Lx.Pc) (i : Int) (ib : Nat) (w : World) (hi : w.cell? ⟨ib, 0, none⟩ = some (.int .i64 i)) : Calls Tryz.prog 57 #[encPc x, .pointer (some ⟨ib, 0, none⟩)] w fun e w' => e = .returned (.bool (decide ((x.to : Int) < i))) ∧ Kp [] w w' := by
  have hlt : ib < w.heap.size := World.block_lt_of_cell? w _ hi
  unfold encPc
  go_enter Tryz.func57, Tryz.ntmps57
  go_wp2
  go_ret
  exact ⟨rfl, (Kp.refl [] w).alloc _⟩

end Go.Proofs.YtogmealngeejmaaGreatDoor
