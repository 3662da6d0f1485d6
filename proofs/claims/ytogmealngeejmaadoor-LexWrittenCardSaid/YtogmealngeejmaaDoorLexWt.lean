/- weight, brief. -/
import Derived.Test.YtogmealngeejmaaDoorLexPrB
import Derived.Test.YtogmealngeejmaaDoorLexEdA
namespace Go.Proofs.YtogmealngeejmaaDoor
open Go Go.RowKit

def Lx.wt : Nat → List Tok → Nat
  | n, [] => n
  | n, x :: l => if n ≤ 30000 then Lx.wt (n + x.text.length) l else n

set_option maxRecDepth 100000 in
set_option maxHeartbeats 1000000 in
theorem weight_c (l : List Tok) (v : Value) (w : World) (hr : Rd w v 4 cellsTk l) (hl : l.length ≤ 4611686018427387904) (hx : ∀ x ∈ l, x.text.length ≤ 4611686018427387904) :
    Calls Tryd.prog 11 #[v] w fun e w' => e = .returned (.int .i64 (Lx.wt 0 l)) ∧ w' = w := by
  obtain ⟨P0, hP0⟩ : ∃ P0 : Ending → World → Prop, P0 = fun e w' => e = .returned (.int .i64 (Lx.wt 0 l)) ∧ w' = w := ⟨_, rfl⟩
  rw [← hP0]
  have HP0 := Lib.hid hP0; clear hP0
  obtain ⟨bp, cap, rfl, hcell⟩ := hr.view
  have HCE := Lib.hid hcell; clear hcell hr
  have HX := Lib.hid hx; clear hx
  go_enter Tryd.func11, Tryd.ntmps11
  go_wp2_with fail
  go_loopg [3, 4] l.length (fun g x y wr => ∃ i n : Nat, g = l.length - i ∧ x = .int .i64 n ∧ y = .int .i64 i ∧ i ≤ l.length ∧ n ≤ 4611686018427487904 ∧ Hid (Lx.wt n (l.drop i) = Lx.wt 0 l) ∧ wr = w)
  case atStart => exact ⟨0, 0, rfl, rfl, rfl, Nat.zero_le _, by omega, rfl, rfl⟩
  case round =>
    obtain ⟨i, n, rfl, rfl, rfl, hi, hn, hw, rfl⟩ := hrel
    by_cases hil : i < l.length
    · have b1 : decide ((i : Int) < l.length) = true := decide_eq_true (by omega)
      obtain ⟨x, hx⟩ : ∃ x, l[i]? = some x := ⟨l[i], by simp [hil]⟩
      have hd : l.drop i = x :: l.drop (i + 1) := by
        rw [List.drop_eq_getElem_cons hil]
        obtain ⟨_, rfl⟩ := List.getElem?_eq_some_iff.1 hx
        rfl
      by_cases h3 : n ≤ 30000
      · have b2 : decide ((n : Int) ≤ 30000) = true := decide_eq_true (by omega)
        obtain ⟨g, o, rfl, hg, hc⟩ := HCE.out i x hx
        have c1 : wr.cell? ⟨g, o + i * 4 + 1, none⟩ = some (.string ⟨x.text.toArray⟩) := hc 1 _ rfl
        have hxl := HX.out x (List.mem_of_getElem? hx)
        have HW : Hid (Lx.wt (n + x.text.length) (l.drop (i + 1)) = Lx.wt 0 l) := Lib.hid (by rw [← hw.out, hd, Lx.wt, if_pos h3])
        have il' : (i : Int) < (l.length : Int) := by omega
        clear hd hx hc
        go_wp2_with fail
        go_roundg (l.length - (i + 1))
        case measure => omega
        case rel => exact ⟨i + 1, n + x.text.length, rfl, by simp, by simp, by omega, by omega, HW.out, rfl⟩
      · have b2 : decide ((n : Int) ≤ 30000) = false := decide_eq_false (by omega)
        have HW : Hid (n = Lx.wt 0 l) := Lib.hid (by rw [← hw.out, hd, Lx.wt, if_neg h3])
        clear hd hx h3
        go_wp2_with fail
        rw [HP0.out]
        exact ⟨by rw [← HW.out]; rfl, rfl⟩
    · have b1 : decide ((i : Int) < l.length) = false := decide_eq_false (by omega)
      have HW : Hid (n = Lx.wt 0 l) := Lib.hid (by rw [← hw.out, List.drop_eq_nil_of_le (by omega), Lx.wt])
      go_wp2_with fail
      rw [HP0.out]
      exact ⟨by rw [← HW.out]; rfl, rfl⟩

set_option maxRecDepth 100000 in
set_option maxHeartbeats 1000000 in
theorem brief_c (t : ByteArray) (w : World) : Calls Tryd.prog 12 #[.string t] w fun e w' => e = .returned (.bool (decide (t.size ≤ 3000) || (decide (20000 < t.size) && decide (t.size ≤ 40000)))) ∧ w' = w := by
  obtain ⟨P0, hP0⟩ : ∃ P0 : Ending → World → Prop, P0 = fun e w' => e = .returned (.bool (decide (t.size ≤ 3000) || (decide (20000 < t.size) && decide (t.size ≤ 40000)))) ∧ w' = w := ⟨_, rfl⟩
  rw [← hP0]
  have HP0 := Lib.hid hP0; clear hP0
  go_enter Tryd.func12, Tryd.ntmps12
  by_cases h1 : t.size ≤ 3000
  · have a1 : decide ((t.size : Int) ≤ 3000) = true := decide_eq_true (by omega)
    have H1 := Lib.hid h1; clear h1
    go_wp2_with fail
    rw [HP0.out]
    exact ⟨by rw [decide_eq_true H1.out]; rfl, rfl⟩
  · have a1 : decide ((t.size : Int) ≤ 3000) = false := decide_eq_false (by omega)
    have H1 := Lib.hid h1; clear h1
    by_cases h2 : 20000 < t.size
    · have a2 : decide ((20000 : Int) < t.size) = true := decide_eq_true (by omega)
      have H2 := Lib.hid h2; clear h2
      by_cases h3 : t.size ≤ 40000
      · have a3 : decide ((t.size : Int) ≤ 40000) = true := decide_eq_true (by omega)
        have H3 := Lib.hid h3; clear h3
        go_wp2_with fail
        rw [HP0.out]
        exact ⟨by rw [decide_eq_false H1.out, decide_eq_true H2.out, decide_eq_true H3.out]; rfl, rfl⟩
      · have a3 : decide ((t.size : Int) ≤ 40000) = false := decide_eq_false (by omega)
        have H3 := Lib.hid h3; clear h3
        go_wp2_with fail
        rw [HP0.out]
        exact ⟨by rw [decide_eq_false H1.out, decide_eq_true H2.out, decide_eq_false H3.out]; rfl, rfl⟩
    · have a2 : decide ((20000 : Int) < t.size) = false := decide_eq_false (by omega)
      have H2 := Lib.hid h2; clear h2
      go_wp2_with fail
      rw [HP0.out]
      exact ⟨by rw [decide_eq_false H1.out, decide_eq_false H2.out]; rfl, rfl⟩

end Go.Proofs.YtogmealngeejmaaDoor
