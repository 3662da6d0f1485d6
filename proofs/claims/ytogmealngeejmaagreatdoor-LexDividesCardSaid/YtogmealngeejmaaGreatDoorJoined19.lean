import Derived.Test.YtogmealngeejmaaGreatDoorJoined17
/- Lists compared: SameInts, Same, Placed; alike, EqualFunc, lex.Same. -/
namespace Go.Proofs.YtogmealngeejmaaGreatDoor
open Go Go.RowKit

theorem Rd.view {α : Type} {W : World} {v : Value} {size : Nat} {enc : α → List Value} {l : List α} (h : Rd W v size enc l) :
    ∃ b cap, v = .slice b l.length cap ∧ ∀ i x, l[i]? = some x → ∃ g off, b = some ⟨g, off, none⟩ ∧ g < W.heap.size ∧ ∀ j u, (enc x)[j]? = some u → W.cell? ⟨g, off + (i * size + j), none⟩ = some u := by
  by_cases hl : l = []
  · subst hl
    obtain ⟨_, ⟨⟨bE, cE, rfl⟩, _⟩ | ⟨g, off, cap, cur, e, z, rfl, _, _⟩⟩ := h
    · exact ⟨bE, cE, rfl, fun i x hx => by simp at hx⟩
    · exact ⟨_, cap, rfl, fun i x hx => by simp at hx⟩
  · obtain ⟨g, off, cap, hv, hg, hc⟩ := h.cells hl
    exact ⟨_, cap, hv, fun i x hx => ⟨g, off, rfl, hg, fun j u hu => hc i x j u hx hu⟩⟩

/-- Two lists are equal element by element. -/
def eqBy {α β : Type} (p : α → β → Bool) (a : List α) (b : List β) : Bool := a.length == b.length && (a.zip b).all fun q => p q.1 q.2

theorem eqBy_len {α β : Type} {p : α → β → Bool} {a : List α} {b : List β} (h : a.length ≠ b.length) : eqBy p a b = false := by simp [eqBy, h]
theorem eqBy_yes {α β : Type} {p : α → β → Bool} {a : List α} {b : List β} (h : a.length = b.length) (hp : ∀ j x y, j < a.length → a[j]? = some x → b[j]? = some y → p x y = true) : eqBy p a b = true := by
  simp only [eqBy, h, beq_self_eq_true, Bool.true_and, List.all_eq_true]
  intro q hq
  obtain ⟨j, hj, rfl⟩ := List.getElem_of_mem hq
  rw [List.length_zip] at hj
  exact hp j _ _ (by omega) (by simp) (by simp)
theorem eqBy_no {α β : Type} {p : α → β → Bool} {a : List α} {b : List β} {j : Nat} {x : α} {y : β} (hx : a[j]? = some x) (hy : b[j]? = some y) (hp : p x y = false) : eqBy p a b = false := by
  have hm : (x, y) ∈ a.zip b := by
    rw [List.mem_iff_getElem?]
    exact ⟨j, by simp [List.getElem?_zip_eq_some, hx, hy]⟩
  simp only [eqBy, Bool.and_eq_false_iff, List.all_eq_false]
  exact .inr ⟨(x, y), hm, by simp [hp]⟩

set_option maxRecDepth 100000 in
set_option maxHeartbeats 1000000 in
theorem sameInts_c (a b : List Nat) (va vb : Value) (w : World) (ha : Rd w va 1 cellsI a) (hb : Rd w vb 1 cellsI b) (hl : a.length ≤ 1100000) (_hl2 : b.length ≤ 1100000) :
    Calls Tryz.prog 23 #[va, vb] w fun e w' => e = .returned (.bool (eqBy (· == ·) a b)) ∧ Kp [] w w' := by
  obtain ⟨P0, hP0⟩ : ∃ P0 : Ending → World → Prop, P0 = fun e w' => e = .returned (.bool (eqBy (· == ·) a b)) ∧ Kp [] w w' := ⟨_, rfl⟩
  rw [← hP0]
  have HP0 := Lib.hid hP0; clear hP0
  obtain ⟨ba, ca, rfl, hca⟩ := ha.view
  obtain ⟨bb, cb, rfl, hcb⟩ := hb.view
  have HCA := Lib.hid hca; clear hca ha
  have HCB := Lib.hid hcb; clear hcb hb
  go_enter Tryz.func23, Tryz.ntmps23
  by_cases hlen : a.length = b.length
  · have e1 : ((a.length : Int) != b.length) = false := by simp [hlen]
    have e2 : ((a.length : Int) == b.length) = true := by simp [hlen]
    have HLEN := Lib.hid hlen; clear hlen
    go_wp2_with fail
    go_loopg [5] a.length (fun n x wr => ∃ k : Nat, n = a.length - k ∧ x = .int .i64 k ∧ k ≤ a.length ∧ Hid (∀ j x y, j < k → a[j]? = some x → b[j]? = some y → (x == y) = true) ∧ Kp [] w wr)
    case atStart => exact ⟨0, rfl, rfl, Nat.zero_le _, fun j x y hj => by omega, Kp.refl _ _⟩
    case round =>
      obtain ⟨k, rfl, rfl, hk, hall, hkp⟩ := hrel
      by_cases hkl : k < a.length
      · have hb' : decide ((k : Int) < a.length) = true := by simpa using hkl
        obtain ⟨x, hx⟩ : ∃ x, a[k]? = some x := ⟨a[k], by simp [hkl]⟩
        obtain ⟨y, hy⟩ : ∃ y, b[k]? = some y := ⟨b[k]'(by rw [← HLEN.out]; exact hkl), by simp⟩
        obtain ⟨ga, oa, rfl, hga, hxa⟩ := HCA.out k x hx
        obtain ⟨gb, ob, rfl, hgb, hyb⟩ := HCB.out k y hy
        have hkb : k < b.length := by rw [← HLEN.out]; exact hkl
        have c0 : wr.cell? ⟨ga, oa + k, none⟩ = some (.int .i64 x) := by have := (hkp.cell (p := ⟨ga, _, none⟩) hga (by simp)).trans (hxa 0 _ rfl); simpa using this
        have d0 : wr.cell? ⟨gb, ob + k, none⟩ = some (.int .i64 y) := by have := (hkp.cell (p := ⟨gb, _, none⟩) hgb (by simp)).trans (hyb 0 _ rfl); simpa using this
        have HX := Lib.hid hx; clear hx hxa
        have HY := Lib.hid hy; clear hy hyb
        have HKP := Lib.hid hkp; clear hkp
        by_cases hxy : x = y
        · have q1 : (((x : Nat) : Int) != y) = false := by simp [hxy]
          have q2 : (((x : Nat) : Int) == y) = true := by simp [hxy]
          have HXY := Lib.hid hxy; clear hxy
          go_wp2_with fail
          go_quiet (fail)
          go_wp2_with fail
          go_roundg (a.length - (k + 1))
          case measure => omega
          case rel =>
            refine ⟨k + 1, rfl, by simp, by omega, fun j x' y' hj hx' hy' => ?_, HKP.out.drewN _⟩
            by_cases hjk : j < k
            · exact hall.out j x' y' hjk hx' hy'
            · obtain rfl : j = k := by omega
              rw [HX.out] at hx'; rw [HY.out] at hy'; cases hx'; cases hy'; simp [HXY.out]
        · have q1 : (((x : Nat) : Int) != y) = true := by simpa using fun h => hxy (by omega)
          have q2 : (((x : Nat) : Int) == y) = false := by simpa using fun h => hxy (by omega)
          have HXY := Lib.hid hxy; clear hxy
          go_wp2_with fail
          go_quiet (fail)
          go_wp2_with fail
          rw [HP0.out]
          exact ⟨by rw [eqBy_no HX.out HY.out (by simpa using HXY.out)]; rfl, HKP.out.drewN _⟩
      · obtain rfl : k = a.length := by omega
        have hb' : decide ((a.length : Int) < a.length) = false := by simp
        go_wp2_with fail
        rw [HP0.out]
        exact ⟨by rw [eqBy_yes HLEN.out hall.out]; rfl, hkp⟩
  · have e1 : ((a.length : Int) != b.length) = true := by simpa using fun h => hlen (by omega)
    have e2 : ((a.length : Int) == b.length) = false := by simpa using fun h => hlen (by omega)
    go_wp2_with fail
    rw [HP0.out]
    exact ⟨by rw [eqBy_len hlen]; rfl, Kp.refl _ _⟩

def Tok.alike (x y : Tok) : Bool := x.kind == y.kind && x.text == y.text
def Tok.atOne (x y : Tok) : Bool := x.line == y.line && x.col == y.col

set_option maxRecDepth 100000 in
set_option maxHeartbeats 1000000 in
theorem sameRef_c (a b : List Tok) (va vb : Value) (w : World) (ha : Rd w va 4 cellsTk a) (hb : Rd w vb 4 cellsTk b) (hl : a.length ≤ 4611686018427387904) (_hl2 : b.length ≤ 4611686018427387904) :
    Calls Tryz.prog 15 #[va, vb] w fun e w' => e = .returned (.bool (eqBy Tok.alike a b)) ∧ Kp [] w w' := by
  obtain ⟨P0, hP0⟩ : ∃ P0 : Ending → World → Prop, P0 = fun e w' => e = .returned (.bool (eqBy Tok.alike a b)) ∧ Kp [] w w' := ⟨_, rfl⟩
  rw [← hP0]
  have HP0 := Lib.hid hP0; clear hP0
  obtain ⟨ba, ca, rfl, hca⟩ := ha.view
  obtain ⟨bb, cb, rfl, hcb⟩ := hb.view
  have HCA := Lib.hid hca; clear hca ha
  have HCB := Lib.hid hcb; clear hcb hb
  go_enter Tryz.func15, Tryz.ntmps15
  by_cases hlen : a.length = b.length
  · have e1 : ((a.length : Int) != b.length) = false := by simp [hlen]
    have e2 : ((a.length : Int) == b.length) = true := by simp [hlen]
    have HLEN := Lib.hid hlen; clear hlen
    go_wp2_with fail
    go_loopg [5] a.length (fun n x wr => ∃ k : Nat, n = a.length - k ∧ x = .int .i64 k ∧ k ≤ a.length ∧ Hid (∀ j x y, j < k → a[j]? = some x → b[j]? = some y → Tok.alike x y = true) ∧ Kp [] w wr)
    case atStart => exact ⟨0, rfl, rfl, Nat.zero_le _, fun j x y hj => by omega, Kp.refl _ _⟩
    case round =>
      obtain ⟨k, rfl, rfl, hk, hall, hkp⟩ := hrel
      by_cases hkl : k < a.length
      · have hb' : decide ((k : Int) < a.length) = true := by simpa using hkl
        obtain ⟨x, hx⟩ : ∃ x, a[k]? = some x := ⟨a[k], by simp [hkl]⟩
        obtain ⟨y, hy⟩ : ∃ y, b[k]? = some y := ⟨b[k]'(by rw [← HLEN.out]; exact hkl), by simp⟩
        obtain ⟨ga, oa, rfl, hga, hxa⟩ := HCA.out k x hx
        obtain ⟨gb, ob, rfl, hgb, hyb⟩ := HCB.out k y hy
        have hkb : k < b.length := by rw [← HLEN.out]; exact hkl
        have c0 : wr.cell? ⟨ga, oa + k * 4, none⟩ = some (.int .i64 x.kind) := (hkp.cell (p := ⟨ga, _, none⟩) hga (by simp)).trans (hxa 0 _ rfl)
        have c1 : wr.cell? ⟨ga, oa + k * 4 + 1, none⟩ = some (.string ⟨x.text.toArray⟩) := (hkp.cell (p := ⟨ga, _, none⟩) hga (by simp)).trans (hxa 1 _ rfl)
        have d0 : wr.cell? ⟨gb, ob + k * 4, none⟩ = some (.int .i64 y.kind) := (hkp.cell (p := ⟨gb, _, none⟩) hgb (by simp)).trans (hyb 0 _ rfl)
        have d1 : wr.cell? ⟨gb, ob + k * 4 + 1, none⟩ = some (.string ⟨y.text.toArray⟩) := (hkp.cell (p := ⟨gb, _, none⟩) hgb (by simp)).trans (hyb 1 _ rfl)
        have HX := Lib.hid hx; clear hx hxa
        have HY := Lib.hid hy; clear hy hyb
        have HKP := Lib.hid hkp; clear hkp
        by_cases hq : x.kind = y.kind
        · have q1 : (x.kind != y.kind) = false := by simp [hq]
          have q2 : (x.kind == y.kind) = true := by simp [hq]
          have Hq := Lib.hid hq; clear hq
          by_cases hs : x.text = y.text
          · have s1 : (x.text != y.text) = false := by simp [hs]
            have s2 : (x.text == y.text) = true := by simp [hs]
            have Hs := Lib.hid hs; clear hs
            go_wp2_with fail
            go_quiet (fail)
            go_wp2_with fail
            go_roundg (a.length - (k + 1))
            case measure => omega
            case rel =>
              refine ⟨k + 1, rfl, by simp, by omega, fun j x' y' hj hx' hy' => ?_, HKP.out.drewN _⟩
              by_cases hjk : j < k
              · exact hall.out j x' y' hjk hx' hy'
              · obtain rfl : j = k := by omega
                rw [HX.out] at hx'; rw [HY.out] at hy'; cases hx'; cases hy'; simp [Tok.alike, q2, s2]
          · have s1 : (x.text != y.text) = true := by simpa using hs
            have s2 : (x.text == y.text) = false := by simpa using hs
            have Hs := Lib.hid hs; clear hs
            go_wp2_with fail
            go_quiet (fail)
            go_wp2_with fail
            rw [HP0.out]
            exact ⟨by rw [eqBy_no HX.out HY.out (by simp [Tok.alike, q2, s2])]; rfl, HKP.out.drewN _⟩
        · have q1 : (x.kind != y.kind) = true := by simpa using hq
          have q2 : (x.kind == y.kind) = false := by simpa using hq
          have Hq := Lib.hid hq; clear hq
          go_wp2_with fail
          go_quiet (fail)
          go_wp2_with fail
          rw [HP0.out]
          exact ⟨by rw [eqBy_no HX.out HY.out (by simp [Tok.alike, q2])]; rfl, HKP.out.drewN _⟩
      · obtain rfl : k = a.length := by omega
        have hb' : decide ((a.length : Int) < a.length) = false := by simp
        go_wp2_with fail
        rw [HP0.out]
        exact ⟨by rw [eqBy_yes HLEN.out hall.out]; rfl, hkp⟩
  · have e1 : ((a.length : Int) != b.length) = true := by simpa using fun h => hlen (by omega)
    have e2 : ((a.length : Int) == b.length) = false := by simpa using fun h => hlen (by omega)
    go_wp2_with fail
    rw [HP0.out]
    exact ⟨by rw [eqBy_len hlen]; rfl, Kp.refl _ _⟩

set_option maxRecDepth 100000 in
set_option maxHeartbeats 1000000 in
theorem placed_c (a b : List Tok) (va vb : Value) (w : World) (ha : Rd w va 4 cellsTk a) (hb : Rd w vb 4 cellsTk b) (hl : a.length ≤ 1100000) (_hl2 : b.length ≤ 1100000) :
    Calls Tryz.prog 22 #[va, vb] w fun e w' => e = .returned (.bool (eqBy Tok.alike a b && eqBy Tok.atOne a b)) ∧ Kp [] w w' := by
  obtain ⟨P0, hP0⟩ : ∃ P0 : Ending → World → Prop, P0 = fun e w' => e = .returned (.bool (eqBy Tok.alike a b && eqBy Tok.atOne a b)) ∧ Kp [] w w' := ⟨_, rfl⟩
  rw [← hP0]
  have HP0 := Lib.hid hP0; clear hP0
  have hS := sameRef_c a b va vb w ha hb (by omega) (by omega)
  obtain ⟨ba, ca, rfl, hca⟩ := ha.view
  obtain ⟨bb, cb, rfl, hcb⟩ := hb.view
  have HCA := Lib.hid hca; clear hca ha
  have HCB := Lib.hid hcb; clear hcb hb
  go_enter Tryz.func22, Tryz.ntmps22
  cases hsm : eqBy Tok.alike a b
  · rw [hsm] at hS HP0
    have HS := Lib.hid hS; clear hS hsm
    go_wp2_with fail
    refine HS.out.mono ?_
    rintro e w1 ⟨rfl, hk1⟩
    go_wp2_with fail
    rw [HP0.out]
    exact ⟨rfl, hk1⟩
  · have hlen : a.length = b.length := by
      by_cases h : a.length = b.length
      · exact h
      · rw [eqBy_len h] at hsm; cases hsm
    rw [hsm] at hS HP0
    have HS := Lib.hid hS; clear hS hsm
    have HLEN := Lib.hid hlen; clear hlen
    go_wp2_with fail
    refine HS.out.mono ?_
    rintro e w1 ⟨rfl, hk1⟩
    have HK1 := Lib.hid hk1; clear hk1
    go_wp2_with fail
    go_loopg [5] a.length (fun n x wr => ∃ k : Nat, n = a.length - k ∧ x = .int .i64 k ∧ k ≤ a.length ∧ Hid (∀ j x y, j < k → a[j]? = some x → b[j]? = some y → Tok.atOne x y = true) ∧ Kp [] w wr)
    case atStart => exact ⟨0, rfl, rfl, Nat.zero_le _, fun j x y hj => by omega, HK1.out⟩
    case round =>
      obtain ⟨k, rfl, rfl, hk, hall, hkp⟩ := hrel
      by_cases hkl : k < a.length
      · have hb' : decide ((k : Int) < a.length) = true := by simpa using hkl
        obtain ⟨x, hx⟩ : ∃ x, a[k]? = some x := ⟨a[k], by simp [hkl]⟩
        obtain ⟨y, hy⟩ : ∃ y, b[k]? = some y := ⟨b[k]'(by rw [← HLEN.out]; exact hkl), by simp⟩
        obtain ⟨ga, oa, rfl, hga, hxa⟩ := HCA.out k x hx
        obtain ⟨gb, ob, rfl, hgb, hyb⟩ := HCB.out k y hy
        have hkb : k < b.length := by rw [← HLEN.out]; exact hkl
        have c2 : wr.cell? ⟨ga, oa + k * 4 + 2, none⟩ = some (.int .i64 x.line) := (hkp.cell (p := ⟨ga, _, none⟩) hga (by simp)).trans (hxa 2 _ rfl)
        have c3 : wr.cell? ⟨ga, oa + k * 4 + 3, none⟩ = some (.int .i64 x.col) := (hkp.cell (p := ⟨ga, _, none⟩) hga (by simp)).trans (hxa 3 _ rfl)
        have d2 : wr.cell? ⟨gb, ob + k * 4 + 2, none⟩ = some (.int .i64 y.line) := (hkp.cell (p := ⟨gb, _, none⟩) hgb (by simp)).trans (hyb 2 _ rfl)
        have d3 : wr.cell? ⟨gb, ob + k * 4 + 3, none⟩ = some (.int .i64 y.col) := (hkp.cell (p := ⟨gb, _, none⟩) hgb (by simp)).trans (hyb 3 _ rfl)
        have HX := Lib.hid hx; clear hx hxa
        have HY := Lib.hid hy; clear hy hyb
        have HKP := Lib.hid hkp; clear hkp
        by_cases hq : x.line = y.line
        · have q1 : (x.line != y.line) = false := by simp [hq]
          have q2 : (x.line == y.line) = true := by simp [hq]
          have Hq := Lib.hid hq; clear hq
          by_cases hs : x.col = y.col
          · have s1 : (x.col != y.col) = false := by simp [hs]
            have s2 : (x.col == y.col) = true := by simp [hs]
            have Hs := Lib.hid hs; clear hs
            go_wp2_with fail
            go_quiet (fail)
            go_wp2_with fail
            go_roundg (a.length - (k + 1))
            case measure => omega
            case rel =>
              refine ⟨k + 1, rfl, by simp, by omega, fun j x' y' hj hx' hy' => ?_, HKP.out.drewN _⟩
              by_cases hjk : j < k
              · exact hall.out j x' y' hjk hx' hy'
              · obtain rfl : j = k := by omega
                rw [HX.out] at hx'; rw [HY.out] at hy'; cases hx'; cases hy'; simp [Tok.atOne, q2, s2]
          · have s1 : (x.col != y.col) = true := by simpa using hs
            have s2 : (x.col == y.col) = false := by simpa using hs
            have Hs := Lib.hid hs; clear hs
            go_wp2_with fail
            go_quiet (fail)
            go_wp2_with fail
            rw [HP0.out]
            exact ⟨by rw [eqBy_no HX.out HY.out (by simp [Tok.atOne, q2, s2])]; rfl, HKP.out.drewN _⟩
        · have q1 : (x.line != y.line) = true := by simpa using hq
          have q2 : (x.line == y.line) = false := by simpa using hq
          have Hq := Lib.hid hq; clear hq
          go_wp2_with fail
          go_quiet (fail)
          go_wp2_with fail
          rw [HP0.out]
          exact ⟨by rw [eqBy_no HX.out HY.out (by simp [Tok.atOne, q2])]; rfl, HKP.out.drewN _⟩
      · obtain rfl : k = a.length := by omega
        have hb' : decide ((a.length : Int) < a.length) = false := by simp
        go_wp2_with fail
        rw [HP0.out]
        exact ⟨by rw [eqBy_yes HLEN.out hall.out]; rfl, hkp⟩

end Go.Proofs.YtogmealngeejmaaGreatDoor

/- alike, EqualFunc, lex.Same; Check. -/
namespace Go.Proofs.YtogmealngeejmaaGreatDoor
open Go Go.RowKit

set_option maxRecDepth 100000 in
set_option maxHeartbeats 1000000 in
theorem alike_c (x y : Tok) (w : World) : Calls Tryz.prog 46 #[encTk x, encTk y] w fun e w' => e = .returned (.bool (Tok.alike x y)) ∧ Kp [] w w' := by
  obtain ⟨P0, hP0⟩ : ∃ P0 : Ending → World → Prop, P0 = fun e w' => e = .returned (.bool (Tok.alike x y)) ∧ Kp [] w w' := ⟨_, rfl⟩
  rw [← hP0]
  have HP0 := Lib.hid hP0; clear hP0
  unfold encTk
  go_enter Tryz.func46, Tryz.ntmps46
  by_cases hq : x.kind = y.kind
  · have q1 : (x.kind == y.kind) = true := by simp [hq]
    have HQ := Lib.hid hq; clear hq
    go_wp2_with fail
    rw [HP0.out]
    refine ⟨?_, ((Kp.refl [] w).alloc _).alloc _⟩
    simp [Tok.alike, q1]
    try rfl
  · have q1 : (x.kind == y.kind) = false := by simpa using hq
    have HQ := Lib.hid hq; clear hq
    go_wp2_with fail
    rw [HP0.out]
    refine ⟨?_, ((Kp.refl [] w).alloc _).alloc _⟩
    simp [Tok.alike, q1]
    try rfl

set_option maxRecDepth 100000 in
set_option maxHeartbeats 1000000 in
theorem equal_c (a b : List Tok) (va vb : Value) (w : World) (ha : Rd w va 4 cellsTk a) (hb : Rd w vb 4 cellsTk b) (hl : a.length ≤ 4611686018427387904) (_hl2 : b.length ≤ 4611686018427387904) :
    Calls Tryz.prog 45 #[va, vb, .func (.func 46) #[] #[]] w fun e w' => e = .returned (.bool (eqBy Tok.alike a b)) ∧ Kp [] w w' := by
  obtain ⟨P0, hP0⟩ : ∃ P0 : Ending → World → Prop, P0 = fun e w' => e = .returned (.bool (eqBy Tok.alike a b)) ∧ Kp [] w w' := ⟨_, rfl⟩
  rw [← hP0]
  have HP0 := Lib.hid hP0; clear hP0
  obtain ⟨ba, ca, rfl, hca⟩ := ha.view
  obtain ⟨bb, cb, rfl, hcb⟩ := hb.view
  have HCA := Lib.hid hca; clear hca ha
  have HCB := Lib.hid hcb; clear hcb hb
  have hent : ∀ args w, (callFunc 46 args).run Tryz.prog w = .ok (.enter 46 args) w := Proofs.enters_of Tryz.func46 (by kernel_rfl) rfl
  go_enter Tryz.func45, Tryz.ntmps45
  by_cases hlen : a.length = b.length
  · have e1 : ((a.length : Int) != b.length) = false := by simp [hlen]
    have e2 : ((a.length : Int) == b.length) = true := by simp [hlen]
    have HLEN := Lib.hid hlen; clear hlen
    go_wp2_with fail
    go_loopg [17] a.length (fun n x wr => ∃ k : Nat, n = a.length - k ∧ x = .int .i64 k ∧ k ≤ a.length ∧ Hid (∀ j x y, j < k → a[j]? = some x → b[j]? = some y → Tok.alike x y = true) ∧ Kp [] w wr)
    case atStart => exact ⟨0, rfl, rfl, Nat.zero_le _, fun j x y hj => by omega, Kp.refl _ _⟩
    case round =>
      obtain ⟨k, rfl, rfl, hk, hall, hkp⟩ := hrel
      by_cases hkl : k < a.length
      · have hb' : decide ((k : Int) < a.length) = true := by simpa using hkl
        obtain ⟨x, hx⟩ : ∃ x, a[k]? = some x := ⟨a[k], by simp [hkl]⟩
        obtain ⟨y, hy⟩ : ∃ y, b[k]? = some y := ⟨b[k]'(by rw [← HLEN.out]; exact hkl), by simp⟩
        obtain ⟨ga, oa, rfl, hga, hxa⟩ := HCA.out k x hx
        obtain ⟨gb, ob, rfl, hgb, hyb⟩ := HCB.out k y hy
        have hkb : k < b.length := by rw [← HLEN.out]; exact hkl
        have c0 : wr.cell? ⟨ga, oa + k * 4, none⟩ = some (.int .i64 x.kind) := (hkp.cell (p := ⟨ga, _, none⟩) hga (by simp)).trans (hxa 0 _ rfl)
        have c1 : wr.cell? ⟨ga, oa + k * 4 + 1, none⟩ = some (.string ⟨x.text.toArray⟩) := (hkp.cell (p := ⟨ga, _, none⟩) hga (by simp)).trans (hxa 1 _ rfl)
        have c2 : wr.cell? ⟨ga, oa + k * 4 + 2, none⟩ = some (.int .i64 x.line) := (hkp.cell (p := ⟨ga, _, none⟩) hga (by simp)).trans (hxa 2 _ rfl)
        have c3 : wr.cell? ⟨ga, oa + k * 4 + 3, none⟩ = some (.int .i64 x.col) := (hkp.cell (p := ⟨ga, _, none⟩) hga (by simp)).trans (hxa 3 _ rfl)
        have d0 : wr.cell? ⟨gb, ob + k * 4, none⟩ = some (.int .i64 y.kind) := (hkp.cell (p := ⟨gb, _, none⟩) hgb (by simp)).trans (hyb 0 _ rfl)
        have d1 : wr.cell? ⟨gb, ob + k * 4 + 1, none⟩ = some (.string ⟨y.text.toArray⟩) := (hkp.cell (p := ⟨gb, _, none⟩) hgb (by simp)).trans (hyb 1 _ rfl)
        have d2 : wr.cell? ⟨gb, ob + k * 4 + 2, none⟩ = some (.int .i64 y.line) := (hkp.cell (p := ⟨gb, _, none⟩) hgb (by simp)).trans (hyb 2 _ rfl)
        have d3 : wr.cell? ⟨gb, ob + k * 4 + 3, none⟩ = some (.int .i64 y.col) := (hkp.cell (p := ⟨gb, _, none⟩) hgb (by simp)).trans (hyb 3 _ rfl)
        have HX := Lib.hid hx; clear hx hxa
        have HY := Lib.hid hy; clear hy hyb
        have hga' : ga < wr.heap.size := Nat.lt_of_lt_of_le hga hkp.size
        have hgb' : gb < wr.heap.size := Nat.lt_of_lt_of_le hgb hkp.size
        have HKP := Lib.hid hkp; clear hkp
        go_wp2_with fail
        refine (alike_c x y _).mono ?_
        rintro e w2 ⟨rfl, hk2⟩
        have HK2 := Lib.hid (((HKP.out.alloc _).alloc _).trans hk2); clear hk2
        cases hq : Tok.alike x y
        · have HQ := Lib.hid hq; clear hq
          go_wp2_with fail
          rw [HP0.out]
          exact ⟨by rw [eqBy_no HX.out HY.out HQ.out]; rfl, HK2.out⟩
        · have HQ := Lib.hid hq; clear hq
          go_wp2_with fail
          go_roundg (a.length - (k + 1))
          case measure => omega
          case rel =>
            refine ⟨k + 1, rfl, by simp, by omega, fun j x' y' hj hx' hy' => ?_, HK2.out⟩
            by_cases hjk : j < k
            · exact hall.out j x' y' hjk hx' hy'
            · obtain rfl : j = k := by omega
              rw [HX.out] at hx'; rw [HY.out] at hy'; cases hx'; cases hy'; exact HQ.out
      · obtain rfl : k = a.length := by omega
        have hb' : decide ((a.length : Int) < a.length) = false := by simp
        go_wp2_with fail
        rw [HP0.out]
        exact ⟨by rw [eqBy_yes HLEN.out hall.out]; rfl, hkp⟩
  · have e1 : ((a.length : Int) != b.length) = true := by simpa using fun h => hlen (by omega)
    have e2 : ((a.length : Int) == b.length) = false := by simpa using fun h => hlen (by omega)
    go_wp2_with fail
    rw [HP0.out]
    exact ⟨by rw [eqBy_len hlen]; rfl, Kp.refl _ _⟩

set_option maxRecDepth 100000 in
set_option maxHeartbeats 1000000 in
theorem same_c (a b : List Tok) (va vb : Value) (w : World) (ha : Rd w va 4 cellsTk a) (hb : Rd w vb 4 cellsTk b) (hl : a.length ≤ 4611686018427387904) (hl2 : b.length ≤ 4611686018427387904) :
    Calls Tryz.prog 14 #[va, vb] w fun e w' => e = .returned (.bool (eqBy Tok.alike a b)) ∧ Kp [] w w' := by
  go_enter Tryz.func14, Tryz.ntmps14
  go_wp2_with fail
  refine (equal_c a b va vb w ha hb hl hl2).mono ?_
  rintro e w1 ⟨rfl, hk⟩
  go_wp2_with fail
  go_ret
  exact ⟨rfl, hk⟩

end Go.Proofs.YtogmealngeejmaaGreatDoor

/- Check, over a list; spelled, Spell. -/
namespace Go.Proofs.YtogmealngeejmaaGreatDoor
open Go Go.RowKit

set_option maxRecDepth 100000 in
set_option maxHeartbeats 1000000 in
theorem indexTk_c (l : List Tok) (v : Value) (w : World) (hr : Rd w v 4 cellsTk l) (hl : l.length ≤ 1100000) (p : Tok → Bool) (cf : FuncId) (cap : Array Value)
    (hent : ∀ args w, (callFunc cf args).run Tryz.prog w = .ok (.enter cf args) w)
    (hc : ∀ x wr, x ∈ l → Kp [] w wr → Calls Tryz.prog cf (#[encTk x] ++ cap) wr fun e w' => e = .returned (.bool (p x)) ∧ Kp [] wr w') :
    Calls Tryz.prog 65 #[v, .func (.func cf) #[] cap] w fun e w' => e = .returned (.int .i64 (idxOf p l)) ∧ Kp [] w w' := by
  obtain ⟨P0, hP0⟩ : ∃ P0 : Ending → World → Prop, P0 = fun e w' => e = .returned (.int .i64 (idxOf p l)) ∧ Kp [] w w' := ⟨_, rfl⟩
  rw [← hP0]
  have HP0 := Lib.hid hP0; clear hP0
  have HCC := Lib.hid hc; clear hc
  by_cases hne : l = []
  · subst hne
    obtain ⟨_, ⟨⟨bE, cE, rfl⟩, _⟩ | ⟨g, off, cp, cur, e, z, rfl, _, _⟩⟩ := hr
    all_goals
      go_enter Tryz.func65, Tryz.ntmps65
      go_wp2_with fail
      go_loopg [8] 0 (fun n x wr => x = .int .i64 0 ∧ wr = w)
      case atStart => exact ⟨rfl, rfl⟩
      case round =>
        obtain ⟨rfl, rfl⟩ := hrel
        go_wp2_with fail
        rw [HP0.out]
        exact ⟨rfl, Kp.refl _ _⟩
  · obtain ⟨g, off, cp, rfl, hglt, hcell⟩ := hr.cells hne
    have HC := Lib.hid hcell; clear hcell hr
    go_enter Tryz.func65, Tryz.ntmps65
    go_wp2_with fail
    go_loopg [8] l.length (fun n x wr => ∃ k : Nat, n = l.length - k ∧ x = .int .i64 k ∧ k ≤ l.length ∧ Hid (∀ j y, j < k → l[j]? = some y → p y = false) ∧ Kp [] w wr)
    case atStart => exact ⟨0, rfl, rfl, Nat.zero_le _, fun j y hj => by omega, Kp.refl _ _⟩
    case round =>
      obtain ⟨k, rfl, rfl, hk, hall, hkp⟩ := hrel
      by_cases hkl : k = l.length
      · subst hkl
        have hb : decide ((l.length : Int) < l.length) = false := by simp
        go_wp2_with fail
        rw [HP0.out]
        exact ⟨by rw [idxOf_none hall.out]; rfl, hkp⟩
      · have hkl' : k < l.length := by omega
        have hb : decide ((k : Int) < l.length) = true := by simpa using hkl'
        obtain ⟨x, hx⟩ : ∃ x, l[k]? = some x := ⟨l[k], by simp [hkl']⟩
        have c0 : wr.cell? ⟨g, off + k * 4, none⟩ = some (.int .i64 x.kind) := (hkp.cell (p := ⟨g, _, none⟩) hglt (by simp)).trans (HC.out k x 0 _ hx rfl)
        have c1 : wr.cell? ⟨g, off + k * 4 + 1, none⟩ = some (.string ⟨x.text.toArray⟩) := (hkp.cell (p := ⟨g, _, none⟩) hglt (by simp)).trans (HC.out k x 1 _ hx rfl)
        have c2 : wr.cell? ⟨g, off + k * 4 + 2, none⟩ = some (.int .i64 x.line) := (hkp.cell (p := ⟨g, _, none⟩) hglt (by simp)).trans (HC.out k x 2 _ hx rfl)
        have c3 : wr.cell? ⟨g, off + k * 4 + 3, none⟩ = some (.int .i64 x.col) := (hkp.cell (p := ⟨g, _, none⟩) hglt (by simp)).trans (HC.out k x 3 _ hx rfl)
        have HX := Lib.hid hx; clear hx
        go_wp2_with fail
        refine (HCC.out x wr (List.mem_of_getElem? HX.out) hkp).mono ?_
        rintro e w2 ⟨rfl, hk2⟩
        have HK2 := Lib.hid (hkp.trans hk2); clear hk2 hkp
        cases hq : p x
        · have HQ := Lib.hid hq; clear hq
          go_wp2_with fail
          go_roundg (l.length - (k + 1))
          case measure => omega
          case rel =>
            refine ⟨k + 1, rfl, by simp, by omega, fun j y hj hy => ?_, HK2.out⟩
            by_cases hjk : j < k
            · exact hall.out j y hjk hy
            · obtain rfl : j = k := by omega
              rw [HX.out] at hy; cases hy; exact HQ.out
        · have HQ := Lib.hid hq; clear hq
          go_wp2_with fail
          rw [HP0.out]
          exact ⟨by rw [idxOf_some hall.out HX.out HQ.out]; rfl, HK2.out⟩

set_option maxRecDepth 100000 in
set_option maxHeartbeats 1000000 in
theorem containsTk_c (l : List Tok) (v : Value) (w : World) (hr : Rd w v 4 cellsTk l) (hl : l.length ≤ 1100000) (p : Tok → Bool) (cf : FuncId) (cap : Array Value)
    (hent : ∀ args w, (callFunc cf args).run Tryz.prog w = .ok (.enter cf args) w)
    (hc : ∀ x wr, x ∈ l → Kp [] w wr → Calls Tryz.prog cf (#[encTk x] ++ cap) wr fun e w' => e = .returned (.bool (p x)) ∧ Kp [] wr w') :
    Calls Tryz.prog 39 #[v, .func (.func cf) #[] cap] w fun e w' => e = .returned (.bool (l.any p)) ∧ Kp [] w w' := by
  rw [← idxOf_any]
  go_enter Tryz.func39, Tryz.ntmps39
  go_wp2_with fail
  refine (indexTk_c l v w hr hl p cf cap hent hc).mono ?_
  rintro e w' ⟨rfl, hk⟩
  go_wp2_with fail
  go_ret
  exact ⟨rfl, hk⟩

set_option maxRecDepth 100000 in
set_option maxHeartbeats 1000000 in
theorem check1_c (x : Tok) (w : World) (hsz : x.text.length ≤ 1100000) : Calls Tryz.prog 40 #[encTk x] w fun e w' => e = .returned (.bool (!Lx.right x)) ∧ Kp [] w w' := by
  have hR := right_c x
  unfold encTk at hR ⊢
  go_enter Tryz.func40, Tryz.ntmps40
  go_wp2_with fail
  refine (hR _ hsz).mono ?_
  rintro e w' ⟨hk, rfl⟩
  have HK := Lib.hid (((Kp.refl [] w).alloc _).trans hk); clear hk
  go_wp2_with fail
  go_ret
  exact ⟨rfl, HK.out⟩

/-- What Check says. -/
def Lx.check (l : List Tok) : Int := if 6000 < l.length then 2 else if l.any (fun x => !Lx.right x) then 13 else 0

set_option maxRecDepth 100000 in
set_option maxHeartbeats 1000000 in
theorem check_c (l : List Tok) (v : Value) (w : World) (hr : Rd w v 4 cellsTk l) (hx : ∀ x ∈ l, x.text.length ≤ 1100000) :
    Calls Tryz.prog 10 #[v] w fun e w' => e = .returned (.int .i64 (Lx.check l)) ∧ Kp [] w w' := by
  obtain ⟨P0, hP0⟩ : ∃ P0 : Ending → World → Prop, P0 = fun e w' => e = .returned (.int .i64 (Lx.check l)) ∧ Kp [] w w' := ⟨_, rfl⟩
  rw [← hP0]
  have HP0 := Lib.hid hP0; clear hP0
  have hc : Lx.check l = if 6000 < l.length then 2 else if l.any (fun x => !Lx.right x) then 13 else 0 := rfl
  obtain ⟨R, hR⟩ : ∃ R, R = Lx.check l := ⟨_, rfl⟩
  rw [← hR] at hc HP0
  clear hR
  have HC := Lib.hid hc; clear hc
  obtain ⟨b, cap, rfl, -⟩ := hr.view
  have HX := Lib.hid hx; clear hx
  have HR := Lib.hid hr; clear hr
  go_enter Tryz.func10, Tryz.ntmps10
  by_cases hl : 6000 < l.length
  · have h1 : decide ((6000 : Int) < l.length) = true := decide_eq_true (by omega)
    go_wp2_with fail
    rw [HP0.out]
    refine ⟨?_, Kp.refl _ _⟩
    rw [HC.out, if_pos hl]; rfl
  · have h1 : decide ((6000 : Int) < l.length) = false := decide_eq_false (by omega)
    go_wp2_with fail
    refine (containsTk_c l _ w HR.out (by omega) (fun x => !Lx.right x) 40 #[] (Proofs.enters_of Tryz.func40 (by kernel_rfl) rfl) (fun x wr hm _ => check1_c x wr (HX.out x hm))).mono ?_
    rintro e w' ⟨rfl, hk⟩
    have HK := Lib.hid hk; clear hk
    have hc2 := HC.out
    rw [if_neg hl] at hc2
    cases hq : l.any (fun x => !Lx.right x)
    all_goals
      rw [hq] at hc2
      have HC2 := Lib.hid hc2; clear hc2 hq
      go_wp2_with fail
      rw [HP0.out]
      refine ⟨?_, HK.out⟩
      rw [HC2.out]; rfl

end Go.Proofs.YtogmealngeejmaaGreatDoor
