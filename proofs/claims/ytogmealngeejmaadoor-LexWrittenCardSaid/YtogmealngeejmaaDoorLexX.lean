/- Check, over a list; spelled, Spell. -/
import Derived.Test.YtogmealngeejmaaDoorLexW
namespace Go.Proofs.YtogmealngeejmaaDoor
open Go Go.RowKit

set_option maxRecDepth 100000 in
set_option maxHeartbeats 1000000 in
theorem indexTk_c (l : List Tok) (v : Value) (w : World) (hr : Rd w v 4 cellsTk l) (hl : l.length ≤ 1000000) (p : Tok → Bool) (cf : FuncId) (cap : Array Value)
    (hent : ∀ args w, (callFunc cf args).run Tryd.prog w = .ok (.enter cf args) w)
    (hc : ∀ x wr, x ∈ l → Kp [] w wr → Calls Tryd.prog cf (#[encTk x] ++ cap) wr fun e w' => e = .returned (.bool (p x)) ∧ Kp [] wr w') :
    Calls Tryd.prog 51 #[v, .func (.func cf) #[] cap] w fun e w' => e = .returned (.int .i64 (idxOf p l)) ∧ Kp [] w w' := by
  obtain ⟨P0, hP0⟩ : ∃ P0 : Ending → World → Prop, P0 = fun e w' => e = .returned (.int .i64 (idxOf p l)) ∧ Kp [] w w' := ⟨_, rfl⟩
  rw [← hP0]
  have HP0 := Lib.hid hP0; clear hP0
  have HCC := Lib.hid hc; clear hc
  by_cases hne : l = []
  · subst hne
    obtain ⟨_, ⟨⟨bE, cE, rfl⟩, _⟩ | ⟨g, off, cp, cur, e, z, rfl, _, _⟩⟩ := hr
    all_goals
      go_enter Tryd.func51, Tryd.ntmps51
      go_wp2_with fail
      go_loopg [8] 0 (fun n x wr => x = .int .i64 0 ∧ wr = w)
      case atStart => exact ⟨rfl, rfl⟩
      case round =>
        obtain ⟨rfl, rfl⟩ := hrel
        go_wp2_with fail
        rw [HP0.out]
        exact ⟨rfl, Kp.refl _ _⟩
  · obtain ⟨g, off, cp, rfl, hglt, hcell⟩ := hr.cells hne
    have HC := Lib.hid hcell; clear hcell hr
    go_enter Tryd.func51, Tryd.ntmps51
    go_wp2_with fail
    go_loopg [8] l.length (fun n x wr => ∃ k : Nat, n = l.length - k ∧ x = .int .i64 k ∧ k ≤ l.length ∧ Hid (∀ j y, j < k → l[j]? = some y → p y = false) ∧ Kp [] w wr)
    case atStart => exact ⟨0, rfl, rfl, Nat.zero_le _, fun j y hj => by omega, Kp.refl _ _⟩
    case round =>
      obtain ⟨k, rfl, rfl, hk, hall, hkp⟩ := hrel
      by_cases hkl : k = l.length
      · subst hkl
        have hb : decide ((l.length : Int) < l.length) = false := by simp
        go_wp2_with fail
        rw [HP0.out]
        exact ⟨by rw [idxOf_none hall.out]; rfl, hkp⟩
      · have hkl' : k < l.length := by omega
        have hb : decide ((k : Int) < l.length) = true := by simpa using hkl'
        obtain ⟨x, hx⟩ : ∃ x, l[k]? = some x := ⟨l[k], by simp [hkl']⟩
        have c0 : wr.cell? ⟨g, off + k * 4, none⟩ = some (.int .i64 x.kind) := (hkp.cell (p := ⟨g, _, none⟩) hglt (by simp)).trans (HC.out k x 0 _ hx rfl)
        have c1 : wr.cell? ⟨g, off + k * 4 + 1, none⟩ = some (.string ⟨x.text.toArray⟩) := (hkp.cell (p := ⟨g, _, none⟩) hglt (by simp)).trans (HC.out k x 1 _ hx rfl)
        have c2 : wr.cell? ⟨g, off + k * 4 + 2, none⟩ = some (.int .i64 x.line) := (hkp.cell (p := ⟨g, _, none⟩) hglt (by simp)).trans (HC.out k x 2 _ hx rfl)
        have c3 : wr.cell? ⟨g, off + k * 4 + 3, none⟩ = some (.int .i64 x.col) := (hkp.cell (p := ⟨g, _, none⟩) hglt (by simp)).trans (HC.out k x 3 _ hx rfl)
        have HX := Lib.hid hx; clear hx
        go_wp2_with fail
        refine (HCC.out x wr (List.mem_of_getElem? HX.out) hkp).mono ?_
        rintro e w2 ⟨rfl, hk2⟩
        have HK2 := Lib.hid (hkp.trans hk2); clear hk2 hkp
        cases hq : p x
        · have HQ := Lib.hid hq; clear hq
          go_wp2_with fail
          go_roundg (l.length - (k + 1))
          case measure => omega
          case rel =>
            refine ⟨k + 1, rfl, by simp, by omega, fun j y hj hy => ?_, HK2.out⟩
            by_cases hjk : j < k
            · exact hall.out j y hjk hy
            · obtain rfl : j = k := by omega
              rw [HX.out] at hy; cases hy; exact HQ.out
        · have HQ := Lib.hid hq; clear hq
          go_wp2_with fail
          rw [HP0.out]
          exact ⟨by rw [idxOf_some hall.out HX.out HQ.out]; rfl, HK2.out⟩

set_option maxRecDepth 100000 in
set_option maxHeartbeats 1000000 in
theorem containsTk_c (l : List Tok) (v : Value) (w : World) (hr : Rd w v 4 cellsTk l) (hl : l.length ≤ 1000000) (p : Tok → Bool) (cf : FuncId) (cap : Array Value)
    (hent : ∀ args w, (callFunc cf args).run Tryd.prog w = .ok (.enter cf args) w)
    (hc : ∀ x wr, x ∈ l → Kp [] w wr → Calls Tryd.prog cf (#[encTk x] ++ cap) wr fun e w' => e = .returned (.bool (p x)) ∧ Kp [] wr w') :
    Calls Tryd.prog 37 #[v, .func (.func cf) #[] cap] w fun e w' => e = .returned (.bool (l.any p)) ∧ Kp [] w w' := by
  rw [← idxOf_any]
  go_enter Tryd.func37, Tryd.ntmps37
  go_wp2_with fail
  refine (indexTk_c l v w hr hl p cf cap hent hc).mono ?_
  rintro e w' ⟨rfl, hk⟩
  go_wp2_with fail
  go_ret
  exact ⟨rfl, hk⟩

set_option maxRecDepth 100000 in
set_option maxHeartbeats 1000000 in
theorem check1_c (x : Tok) (w : World) (hsz : x.text.length ≤ 1000000) : Calls Tryd.prog 38 #[encTk x] w fun e w' => e = .returned (.bool (!Lx.right x)) ∧ Kp [] w w' := by
  have hR := right_c x
  unfold encTk at hR ⊢
  go_enter Tryd.func38, Tryd.ntmps38
  go_wp2_with fail
  refine (hR _ hsz).mono ?_
  rintro e w' ⟨hk, rfl⟩
  have HK := Lib.hid (((Kp.refl [] w).alloc _).trans hk); clear hk
  go_wp2_with fail
  go_ret
  exact ⟨rfl, HK.out⟩

/-- What Check says. -/
def Lx.check (l : List Tok) : Int := if 6000 < l.length then 2 else if l.any (fun x => !Lx.right x) then 13 else 0

set_option maxRecDepth 100000 in
set_option maxHeartbeats 1000000 in
theorem check_c (l : List Tok) (v : Value) (w : World) (hr : Rd w v 4 cellsTk l) (hx : ∀ x ∈ l, x.text.length ≤ 1000000) :
    Calls Tryd.prog 15 #[v] w fun e w' => e = .returned (.int .i64 (Lx.check l)) ∧ Kp [] w w' := by
  obtain ⟨P0, hP0⟩ : ∃ P0 : Ending → World → Prop, P0 = fun e w' => e = .returned (.int .i64 (Lx.check l)) ∧ Kp [] w w' := ⟨_, rfl⟩
  rw [← hP0]
  have HP0 := Lib.hid hP0; clear hP0
  have hc : Lx.check l = if 6000 < l.length then 2 else if l.any (fun x => !Lx.right x) then 13 else 0 := rfl
  obtain ⟨R, hR⟩ : ∃ R, R = Lx.check l := ⟨_, rfl⟩
  rw [← hR] at hc HP0
  clear hR
  have HC := Lib.hid hc; clear hc
  obtain ⟨b, cap, rfl, -⟩ := hr.view
  have HX := Lib.hid hx; clear hx
  have HR := Lib.hid hr; clear hr
  go_enter Tryd.func15, Tryd.ntmps15
  by_cases hl : 6000 < l.length
  · have h1 : decide ((6000 : Int) < l.length) = true := decide_eq_true (by omega)
    go_wp2_with fail
    rw [HP0.out]
    refine ⟨?_, Kp.refl _ _⟩
    rw [HC.out, if_pos hl]; rfl
  · have h1 : decide ((6000 : Int) < l.length) = false := decide_eq_false (by omega)
    go_wp2_with fail
    refine (containsTk_c l _ w HR.out (by omega) (fun x => !Lx.right x) 38 #[] (Proofs.enters_of Tryd.func38 (by kernel_rfl) rfl) (fun x wr hm _ => check1_c x wr (HX.out x hm))).mono ?_
    rintro e w' ⟨rfl, hk⟩
    have HK := Lib.hid hk; clear hk
    have hc2 := HC.out
    rw [if_neg hl] at hc2
    cases hq : l.any (fun x => !Lx.right x)
    all_goals
      rw [hq] at hc2
      have HC2 := Lib.hid hc2; clear hc2 hq
      go_wp2_with fail
      rw [HP0.out]
      refine ⟨?_, HK.out⟩
      rw [HC2.out]; rfl

end Go.Proofs.YtogmealngeejmaaDoor
