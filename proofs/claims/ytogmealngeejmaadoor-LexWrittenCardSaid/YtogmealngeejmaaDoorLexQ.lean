/- The index of an element; Token; Kind. -/
import Derived.Test.YtogmealngeejmaaDoorLexP
namespace Go.Proofs.YtogmealngeejmaaDoor
open Go Go.RowKit

/-- The index of the first element that is so, or -1. -/
def idxOf {α : Type} (p : α → Bool) (l : List α) : Int := match l.findIdx? p with
  | some k => k
  | none => -1

theorem idxOf_some {α : Type} {p : α → Bool} {l : List α} {k : Nat} {x : α} (h : ∀ j y, j < k → l[j]? = some y → p y = false) (hx : l[k]? = some x) (hp : p x = true) : idxOf p l = k := by
  unfold idxOf
  have : l.findIdx? p = some k := by
    rw [List.findIdx?_eq_some_iff_getElem]
    obtain ⟨hk, rfl⟩ := List.getElem?_eq_some_iff.1 hx
    refine ⟨hk, hp, fun j hj => ?_⟩
    have := h j l[j] hj (by simp [Nat.lt_trans hj hk])
    simp [this]
  rw [this]

theorem idxOf_none {α : Type} {p : α → Bool} {l : List α} (h : ∀ j y, j < l.length → l[j]? = some y → p y = false) : idxOf p l = -1 := by
  unfold idxOf
  have : l.findIdx? p = none := by
    rw [List.findIdx?_eq_none_iff]
    intro x hx
    obtain ⟨j, hj, rfl⟩ := List.getElem_of_mem hx
    exact h j _ hj (by simp [hj])
  rw [this]

set_option maxRecDepth 100000 in
set_option maxHeartbeats 1000000 in
theorem indexPc_c (l : List Lx.Pc) (v : Value) (w : World) (hr : Rd w v 6 cellsPc l) (hl : l.length ≤ 1000000) (p : Lx.Pc → Bool) (cf : FuncId) (cap : Array Value)
    (hent : ∀ args w, (callFunc cf args).run Tryd.prog w = .ok (.enter cf args) w)
    (hc : ∀ x wr, Kp [] w wr → Calls Tryd.prog cf (#[encPc x] ++ cap) wr fun e w' => e = .returned (.bool (p x)) ∧ Kp [] wr w') :
    Calls Tryd.prog 42 #[v, .func (.func cf) #[] cap] w fun e w' => e = .returned (.int .i64 (idxOf p l)) ∧ Kp [] w w' := by
  obtain ⟨P0, hP0⟩ : ∃ P0 : Ending → World → Prop, P0 = fun e w' => e = .returned (.int .i64 (idxOf p l)) ∧ Kp [] w w' := ⟨_, rfl⟩
  rw [← hP0]
  have HP0 := Lib.hid hP0; clear hP0
  have HCC := Lib.hid hc; clear hc
  by_cases hne : l = []
  · subst hne
    obtain ⟨_, ⟨⟨bE, cE, rfl⟩, _⟩ | ⟨g, off, cp, cur, e, z, rfl, _, _⟩⟩ := hr
    all_goals
      go_enter Tryd.func42, Tryd.ntmps42
      go_wp2_with fail
      go_loopg [8] 0 (fun n x wr => x = .int .i64 0 ∧ wr = w)
      case atStart => exact ⟨rfl, rfl⟩
      case round =>
        obtain ⟨rfl, rfl⟩ := hrel
        go_wp2_with fail
        rw [HP0.out]
        exact ⟨rfl, Kp.refl _ _⟩
  · obtain ⟨g, off, cp, rfl, hglt, hcell⟩ := hr.cells hne
    have HC := Lib.hid hcell; clear hcell hr
    go_enter Tryd.func42, Tryd.ntmps42
    go_wp2_with fail
    go_loopg [8] l.length (fun n x wr => ∃ k : Nat, n = l.length - k ∧ x = .int .i64 k ∧ k ≤ l.length ∧ Hid (∀ j y, j < k → l[j]? = some y → p y = false) ∧ Kp [] w wr)
    case atStart => exact ⟨0, rfl, rfl, Nat.zero_le _, fun j y hj => by omega, Kp.refl _ _⟩
    case round =>
      obtain ⟨k, rfl, rfl, hk, hall, hkp⟩ := hrel
      by_cases hkl : k = l.length
      · subst hkl
        have hb : decide ((l.length : Int) < l.length) = false := by simp
        go_wp2_with fail
        rw [HP0.out]
        exact ⟨by rw [idxOf_none hall.out]; rfl, hkp⟩
      · have hkl' : k < l.length := by omega
        have hb : decide ((k : Int) < l.length) = true := by simpa using hkl'
        obtain ⟨x, hx⟩ : ∃ x, l[k]? = some x := ⟨l[k], by simp [hkl']⟩
        have c0 : wr.cell? ⟨g, off + k * 6, none⟩ = some (.int .i64 x.kind) := (hkp.cell (p := ⟨g, _, none⟩) hglt (by simp)).trans (HC.out k x 0 _ hx rfl)
        have c1 : wr.cell? ⟨g, off + k * 6 + 1, none⟩ = some (.string ⟨x.text.toArray⟩) := (hkp.cell (p := ⟨g, _, none⟩) hglt (by simp)).trans (HC.out k x 1 _ hx rfl)
        have c2 : wr.cell? ⟨g, off + k * 6 + 2, none⟩ = some (.int .i64 x.line) := (hkp.cell (p := ⟨g, _, none⟩) hglt (by simp)).trans (HC.out k x 2 _ hx rfl)
        have c3 : wr.cell? ⟨g, off + k * 6 + 3, none⟩ = some (.int .i64 x.col) := (hkp.cell (p := ⟨g, _, none⟩) hglt (by simp)).trans (HC.out k x 3 _ hx rfl)
        have c4 : wr.cell? ⟨g, off + k * 6 + 4, none⟩ = some (.int .i64 x.frm) := (hkp.cell (p := ⟨g, _, none⟩) hglt (by simp)).trans (HC.out k x 4 _ hx rfl)
        have c5 : wr.cell? ⟨g, off + k * 6 + 5, none⟩ = some (.int .i64 x.to) := (hkp.cell (p := ⟨g, _, none⟩) hglt (by simp)).trans (HC.out k x 5 _ hx rfl)
        have HX := Lib.hid hx; clear hx
        go_wp2_with fail
        refine (HCC.out x wr hkp).mono ?_
        rintro e w2 ⟨rfl, hk2⟩
        have HK2 := Lib.hid (hkp.trans hk2); clear hk2 hkp
        cases hq : p x
        · have HQ := Lib.hid hq; clear hq
          go_wp2_with fail
          go_roundg (l.length - (k + 1))
          case measure => omega
          case rel =>
            refine ⟨k + 1, rfl, by simp, by omega, fun j y hj hy => ?_, HK2.out⟩
            by_cases hjk : j < k
            · exact hall.out j y hjk hy
            · obtain rfl : j = k := by omega
              rw [HX.out] at hy; cases hy; exact HQ.out
        · have HQ := Lib.hid hq; clear hq
          go_wp2_with fail
          rw [HP0.out]
          exact ⟨by rw [idxOf_some hall.out HX.out HQ.out]; rfl, HK2.out⟩

set_option maxRecDepth 100000 in
set_option maxHeartbeats 1000000 in
theorem token1_c (x : Lx.Pc) (i : Int) (ib : Nat) (w : World) (hi : w.cell? ⟨ib, 0, none⟩ = some (.int .i64 i)) : Calls Tryd.prog 43 #[encPc x, .pointer (some ⟨ib, 0, none⟩)] w fun e w' => e = .returned (.bool (decide (i < x.to))) ∧ Kp [] w w' := by
  have hlt : ib < w.heap.size := World.block_lt_of_cell? w _ hi
  unfold encPc
  go_enter Tryd.func43, Tryd.ntmps43
  go_wp2
  go_ret
  exact ⟨rfl, (Kp.refl [] w).alloc _⟩

/-- The index of the token that has a byte. -/
def Lx.tokenAt (t : Lx.Bs) (i : Int) : Int × Int × Nat :=
  if (Lx.dv t).2.1 ≠ 0 then (0, (Lx.dv t).2.1, (Lx.dv t).2.2)
  else if i < 0 ∨ (t.length : Int) ≤ i then (0, 1, 0)
  else if idxOf (fun p => decide (i < p.to)) (Lx.dv t).1 < 0 then (0, 3, 0)
  else (idxOf (fun p => decide (i < p.to)) (Lx.dv t).1, 0, 0)

set_option maxRecDepth 100000 in
set_option maxHeartbeats 1000000 in
theorem token_c (t : ByteArray) (i : Int) (w : World) (hsz : t.size ≤ 1000000) : Calls Tryd.prog 17 #[.string t, .int .i64 i] w fun e w' => Kp [] w w' ∧
    e = .returned (.tuple #[.int .i64 (Lx.tokenAt t.data.toList i).1, .int .i64 (Lx.tokenAt t.data.toList i).2.1, .int .i64 (Lx.tokenAt t.data.toList i).2.2]) := by
  obtain ⟨P0, hP0⟩ : ∃ P0 : Ending → World → Prop, P0 = fun e w' => Kp [] w w' ∧ e = .returned (.tuple #[.int .i64 (Lx.tokenAt t.data.toList i).1, .int .i64 (Lx.tokenAt t.data.toList i).2.1, .int .i64 (Lx.tokenAt t.data.toList i).2.2]) := ⟨_, rfl⟩
  rw [← hP0]
  have HP0 := Lib.hid hP0; clear hP0
  have hmf : ∀ (fn : Fn) (first cap : Array Value) (w : World), (Instr.makeFunc fn first cap).run Tryd.prog w = .ok (.func fn first cap) w := fun _ _ _ _ => rfl
  have hlen := size_list t
  have HLEN := Lib.hid hlen; clear hlen
  go_enter Tryd.func17, Tryd.ntmps17
  go_wp2_with fail
  refine (divided_d t _ hsz).mono ?_
  rintro e w1 ⟨hk1, v, rfl, hrow⟩
  have ib : w1.heap[w.heap.size]? = some (.cells #[.int .i64 i] 3 (0, 0)) := hk1.heap (heap_alloc_new w _) (by simp)
  have hk : Kp [] w w1 := ((Kp.refl [] w).alloc _).trans hk1
  have hl := Lx.dv_len t.data.toList
  have ht : Lx.tokenAt t.data.toList i = (if (Lx.dv t.data.toList).2.1 ≠ 0 then (0, (Lx.dv t.data.toList).2.1, (Lx.dv t.data.toList).2.2)
    else if i < 0 ∨ (t.data.toList.length : Int) ≤ i then (0, 1, 0)
    else if idxOf (fun p => decide (i < p.to)) (Lx.dv t.data.toList).1 < 0 then (0, 3, 0)
    else (idxOf (fun p => decide (i < p.to)) (Lx.dv t.data.toList).1, 0, 0)) := rfl
  rw [HLEN.out] at ht
  obtain ⟨R, hR⟩ : ∃ R, R = Lx.tokenAt t.data.toList i := ⟨_, rfl⟩
  rw [← hR] at ht HP0
  clear hR
  obtain ⟨⟨ps, er, a⟩, hr⟩ : ∃ r, r = Lx.dv t.data.toList := ⟨_, rfl⟩
  rw [← hr] at ht hl hrow ⊢
  clear hr
  simp only at ht hl hrow ⊢
  have HT := Lib.hid ht; clear ht
  have HK := Lib.hid hk; clear hk hk1
  have hrd := Rd.of_own cellsPc_length hrow
  clear hrow
  have fi : w1.cell? ⟨w.heap.size, 0, none⟩ = some (.int .i64 i) := cell_of_block ib 0
  have HIB := Lib.hid ib; clear ib
  by_cases he : er = 0
  · subst he
    cases h0 : decide (i < 0)
    · cases h1 : decide ((t.size : Int) ≤ i)
      · go_wp2_with fail
        have hent : ∀ args w, (callFunc 43 args).run Tryd.prog w = .ok (.enter 43 args) w := Proofs.enters_of Tryd.func43 (by kernel_rfl) rfl
        refine (indexPc_c ps v w1 hrd (by omega) (fun p => decide (i < p.to)) 43 #[.pointer (some ⟨w.heap.size, 0, none⟩)] hent (fun x wr hk => token1_c x i w.heap.size wr (cell_of_block (hk.heap HIB.out (by simp)) 0))).mono ?_
        rintro e w2 ⟨rfl, hk2⟩
        have HK2 := Lib.hid (HK.out.trans hk2); clear hk2
        have ht := HT.out
        rw [if_neg (by simp), if_neg (by simp at h0 h1; omega)] at ht
        obtain ⟨ix, hix⟩ : ∃ ix, ix = idxOf (fun p => decide (i < p.to)) ps := ⟨_, rfl⟩
        rw [← hix] at ht ⊢
        clear hix
        have HT2 := Lib.hid ht; clear ht
        cases h2 : decide (ix < 0)
        all_goals
          go_wp2_with fail
          refine bodyPost_ret (results_tmp3 rfl _ _ _) rfl ?_
          rw [HP0.out]
          refine ⟨HK2.out, ?_⟩
          rw [HT2.out]
          simp at h2
        · rw [if_neg (by omega)]; rfl
        · rw [if_pos h2]; rfl
      · go_wp2_with fail
        refine bodyPost_ret (results_tmp3 rfl _ _ _) rfl ?_
        rw [HP0.out]
        refine ⟨HK.out, ?_⟩
        rw [HT.out, if_neg (by simp), if_pos (.inr (of_decide_eq_true h1))]
        rfl
    · go_wp2_with fail
      refine bodyPost_ret (results_tmp3 rfl _ _ _) rfl ?_
      rw [HP0.out]
      refine ⟨HK.out, ?_⟩
      rw [HT.out, if_neg (by simp), if_pos (.inl (of_decide_eq_true h0))]
      rfl
  · have he1 : (er != 0) = true := by simpa using he
    have he2 : (er == 0) = false := by simpa using he
    go_wp2_with fail
    refine bodyPost_ret (results_tmp3 rfl _ _ _) rfl ?_
    rw [HP0.out]
    refine ⟨HK.out, ?_⟩
    rw [HT.out, if_pos he]
    rfl

end Go.Proofs.YtogmealngeejmaaDoor
