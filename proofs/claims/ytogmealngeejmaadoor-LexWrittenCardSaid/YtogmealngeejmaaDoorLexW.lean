/- alike, EqualFunc, lex.Same; Check. -/
import Derived.Test.YtogmealngeejmaaDoorLexV
namespace Go.Proofs.YtogmealngeejmaaDoor
open Go Go.RowKit

set_option maxRecDepth 100000 in
set_option maxHeartbeats 1000000 in
theorem alike_c (x y : Tok) (w : World) : Calls Tryd.prog 24 #[encTk x, encTk y] w fun e w' => e = .returned (.bool (Tok.alike x y)) ∧ Kp [] w w' := by
  obtain ⟨P0, hP0⟩ : ∃ P0 : Ending → World → Prop, P0 = fun e w' => e = .returned (.bool (Tok.alike x y)) ∧ Kp [] w w' := ⟨_, rfl⟩
  rw [← hP0]
  have HP0 := Lib.hid hP0; clear hP0
  unfold encTk
  go_enter Tryd.func24, Tryd.ntmps24
  by_cases hq : x.kind = y.kind
  · have q1 : (x.kind == y.kind) = true := by simp [hq]
    have HQ := Lib.hid hq; clear hq
    go_wp2_with fail
    rw [HP0.out]
    refine ⟨?_, ((Kp.refl [] w).alloc _).alloc _⟩
    simp [Tok.alike, q1]
    try rfl
  · have q1 : (x.kind == y.kind) = false := by simpa using hq
    have HQ := Lib.hid hq; clear hq
    go_wp2_with fail
    rw [HP0.out]
    refine ⟨?_, ((Kp.refl [] w).alloc _).alloc _⟩
    simp [Tok.alike, q1]
    try rfl

set_option maxRecDepth 100000 in
set_option maxHeartbeats 1000000 in
theorem equal_c (a b : List Tok) (va vb : Value) (w : World) (ha : Rd w va 4 cellsTk a) (hb : Rd w vb 4 cellsTk b) (hl : a.length ≤ 1000000) (_hl2 : b.length ≤ 1000000) :
    Calls Tryd.prog 36 #[va, vb, .func (.func 24) #[] #[]] w fun e w' => e = .returned (.bool (eqBy Tok.alike a b)) ∧ Kp [] w w' := by
  obtain ⟨P0, hP0⟩ : ∃ P0 : Ending → World → Prop, P0 = fun e w' => e = .returned (.bool (eqBy Tok.alike a b)) ∧ Kp [] w w' := ⟨_, rfl⟩
  rw [← hP0]
  have HP0 := Lib.hid hP0; clear hP0
  obtain ⟨ba, ca, rfl, hca⟩ := ha.view
  obtain ⟨bb, cb, rfl, hcb⟩ := hb.view
  have HCA := Lib.hid hca; clear hca ha
  have HCB := Lib.hid hcb; clear hcb hb
  have hent : ∀ args w, (callFunc 24 args).run Tryd.prog w = .ok (.enter 24 args) w := Proofs.enters_of Tryd.func24 (by kernel_rfl) rfl
  go_enter Tryd.func36, Tryd.ntmps36
  by_cases hlen : a.length = b.length
  · have e1 : ((a.length : Int) != b.length) = false := by simp [hlen]
    have e2 : ((a.length : Int) == b.length) = true := by simp [hlen]
    have HLEN := Lib.hid hlen; clear hlen
    go_wp2_with fail
    go_loopg [17] a.length (fun n x wr => ∃ k : Nat, n = a.length - k ∧ x = .int .i64 k ∧ k ≤ a.length ∧ Hid (∀ j x y, j < k → a[j]? = some x → b[j]? = some y → Tok.alike x y = true) ∧ Kp [] w wr)
    case atStart => exact ⟨0, rfl, rfl, Nat.zero_le _, fun j x y hj => by omega, Kp.refl _ _⟩
    case round =>
      obtain ⟨k, rfl, rfl, hk, hall, hkp⟩ := hrel
      by_cases hkl : k < a.length
      · have hb' : decide ((k : Int) < a.length) = true := by simpa using hkl
        obtain ⟨x, hx⟩ : ∃ x, a[k]? = some x := ⟨a[k], by simp [hkl]⟩
        obtain ⟨y, hy⟩ : ∃ y, b[k]? = some y := ⟨b[k]'(by rw [← HLEN.out]; exact hkl), by simp⟩
        obtain ⟨ga, oa, rfl, hga, hxa⟩ := HCA.out k x hx
        obtain ⟨gb, ob, rfl, hgb, hyb⟩ := HCB.out k y hy
        have hkb : k < b.length := by rw [← HLEN.out]; exact hkl
        have c0 : wr.cell? ⟨ga, oa + k * 4, none⟩ = some (.int .i64 x.kind) := (hkp.cell (p := ⟨ga, _, none⟩) hga (by simp)).trans (hxa 0 _ rfl)
        have c1 : wr.cell? ⟨ga, oa + k * 4 + 1, none⟩ = some (.string ⟨x.text.toArray⟩) := (hkp.cell (p := ⟨ga, _, none⟩) hga (by simp)).trans (hxa 1 _ rfl)
        have c2 : wr.cell? ⟨ga, oa + k * 4 + 2, none⟩ = some (.int .i64 x.line) := (hkp.cell (p := ⟨ga, _, none⟩) hga (by simp)).trans (hxa 2 _ rfl)
        have c3 : wr.cell? ⟨ga, oa + k * 4 + 3, none⟩ = some (.int .i64 x.col) := (hkp.cell (p := ⟨ga, _, none⟩) hga (by simp)).trans (hxa 3 _ rfl)
        have d0 : wr.cell? ⟨gb, ob + k * 4, none⟩ = some (.int .i64 y.kind) := (hkp.cell (p := ⟨gb, _, none⟩) hgb (by simp)).trans (hyb 0 _ rfl)
        have d1 : wr.cell? ⟨gb, ob + k * 4 + 1, none⟩ = some (.string ⟨y.text.toArray⟩) := (hkp.cell (p := ⟨gb, _, none⟩) hgb (by simp)).trans (hyb 1 _ rfl)
        have d2 : wr.cell? ⟨gb, ob + k * 4 + 2, none⟩ = some (.int .i64 y.line) := (hkp.cell (p := ⟨gb, _, none⟩) hgb (by simp)).trans (hyb 2 _ rfl)
        have d3 : wr.cell? ⟨gb, ob + k * 4 + 3, none⟩ = some (.int .i64 y.col) := (hkp.cell (p := ⟨gb, _, none⟩) hgb (by simp)).trans (hyb 3 _ rfl)
        have HX := Lib.hid hx; clear hx hxa
        have HY := Lib.hid hy; clear hy hyb
        have hga' : ga < wr.heap.size := Nat.lt_of_lt_of_le hga hkp.size
        have hgb' : gb < wr.heap.size := Nat.lt_of_lt_of_le hgb hkp.size
        have HKP := Lib.hid hkp; clear hkp
        go_wp2_with fail
        refine (alike_c x y _).mono ?_
        rintro e w2 ⟨rfl, hk2⟩
        have HK2 := Lib.hid (((HKP.out.alloc _).alloc _).trans hk2); clear hk2
        cases hq : Tok.alike x y
        · have HQ := Lib.hid hq; clear hq
          go_wp2_with fail
          rw [HP0.out]
          exact ⟨by rw [eqBy_no HX.out HY.out HQ.out]; rfl, HK2.out⟩
        · have HQ := Lib.hid hq; clear hq
          go_wp2_with fail
          go_roundg (a.length - (k + 1))
          case measure => omega
          case rel =>
            refine ⟨k + 1, rfl, by simp, by omega, fun j x' y' hj hx' hy' => ?_, HK2.out⟩
            by_cases hjk : j < k
            · exact hall.out j x' y' hjk hx' hy'
            · obtain rfl : j = k := by omega
              rw [HX.out] at hx'; rw [HY.out] at hy'; cases hx'; cases hy'; exact HQ.out
      · obtain rfl : k = a.length := by omega
        have hb' : decide ((a.length : Int) < a.length) = false := by simp
        go_wp2_with fail
        rw [HP0.out]
        exact ⟨by rw [eqBy_yes HLEN.out hall.out]; rfl, hkp⟩
  · have e1 : ((a.length : Int) != b.length) = true := by simpa using fun h => hlen (by omega)
    have e2 : ((a.length : Int) == b.length) = false := by simpa using fun h => hlen (by omega)
    go_wp2_with fail
    rw [HP0.out]
    exact ⟨by rw [eqBy_len hlen]; rfl, Kp.refl _ _⟩

set_option maxRecDepth 100000 in
set_option maxHeartbeats 1000000 in
theorem same_c (a b : List Tok) (va vb : Value) (w : World) (ha : Rd w va 4 cellsTk a) (hb : Rd w vb 4 cellsTk b) (hl : a.length ≤ 1000000) (hl2 : b.length ≤ 1000000) :
    Calls Tryd.prog 14 #[va, vb] w fun e w' => e = .returned (.bool (eqBy Tok.alike a b)) ∧ Kp [] w w' := by
  go_enter Tryd.func14, Tryd.ntmps14
  go_wp2_with fail
  refine (equal_c a b va vb w ha hb hl hl2).mono ?_
  rintro e w1 ⟨rfl, hk⟩
  go_wp2_with fail
  go_ret
  exact ⟨rfl, hk⟩

end Go.Proofs.YtogmealngeejmaaDoor
