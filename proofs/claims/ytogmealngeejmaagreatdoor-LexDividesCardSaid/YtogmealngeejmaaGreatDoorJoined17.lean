import Derived.Test.YtogmealngeejmaaGreatDoorJoined12
/- The lexer's exported functions: Lex, Ends, At, Token, Kind. -/
namespace Go.Proofs.YtogmealngeejmaaGreatDoor
open Go Go.RowKit

/-- What 'divided' hands back: the pieces, the error, its index. -/
def Lx.dv (t : Lx.Bs) : List Lx.Pc × Int × Nat :=
  match (Lx.divide t).2 with
  | none => ((Lx.divide t).1, 0, 0)
  | some (er, a) => ([], er, a)

theorem Lx.divs_len (f : Nat) : ∀ (a : Nat) (l : Lx.Bs) (line col name : Int) (many : Nat), many ≤ 6000 → (Lx.divs f a l line col name many).1.length + many ≤ 6000 := by
  induction f with
  | zero => intro a l line col name many h; simpa [Lx.divs] using h
  | succ f ih =>
    intro a l line col name many h
    rw [divs_succ]
    split
    · simpa using h
    · split
      · simpa using h
      · split
        · simpa using h
        · split
          · rename_i hm
            simp only [List.length_cons]
            rw [Nat.add_right_comm, Nat.add_assoc]
            exact ih _ _ _ _ _ (many + 1) (by omega)
          · simpa using h

theorem Lx.dv_len (t : Lx.Bs) : (Lx.dv t).1.length ≤ 6000 := by
  unfold Lx.dv
  split
  · unfold Lx.divide
    split
    · have := Lx.divs_len (t.length + 1) 0 t 1 1 0 0 (by omega); simpa using this
    · simp
  · simp

theorem divided_d (t : ByteArray) (w : World) (hsz : t.size ≤ 1100000) : Calls Tryz.prog 43 #[.string t] w fun e w' => Kp [] w w' ∧
    ∃ v, e = .returned (.tuple #[v, .int .i64 (Lx.dv t.data.toList).2.1, .int .i64 (Lx.dv t.data.toList).2.2]) ∧ w'.ownsRow w.heap.size 69 6 v (Lx.dv t.data.toList).1.length ((Lx.dv t.data.toList).1.flatMap cellsPc) := by
  refine (divided_c t w hsz).mono ?_
  rintro e w' ⟨hk, h⟩
  refine ⟨hk, ?_⟩
  unfold Lx.dv
  cases hr : (Lx.divide t.data.toList).2 with
  | none => rw [hr] at h; exact h
  | some p =>
    obtain ⟨er, a⟩ := p
    rw [hr] at h
    exact ⟨_, h, World.ownsRow_nil _ _ _ _⟩

set_option maxRecDepth 100000 in
set_option maxHeartbeats 1000000 in
theorem lex_c (t : ByteArray) (w : World) (hsz : t.size ≤ 1100000) : Calls Tryz.prog 18 #[.string t] w fun e w' => Kp [] w w' ∧
    ∃ v, e = .returned (.tuple #[v, .int .i64 (Lx.dv t.data.toList).2.1, .int .i64 (Lx.dv t.data.toList).2.2]) ∧ w'.ownsRow w.heap.size 34 4 v (Lx.dv t.data.toList).1.length (((Lx.dv t.data.toList).1.map tkOf).flatMap cellsTk) := by
  obtain ⟨P0, hP0⟩ : ∃ P0 : Ending → World → Prop, P0 = fun e w' => Kp [] w w' ∧ ∃ v, e = .returned (.tuple #[v, .int .i64 (Lx.dv t.data.toList).2.1, .int .i64 (Lx.dv t.data.toList).2.2]) ∧
    w'.ownsRow w.heap.size 34 4 v (Lx.dv t.data.toList).1.length (((Lx.dv t.data.toList).1.map tkOf).flatMap cellsTk) := ⟨_, rfl⟩
  rw [← hP0]
  have HP0 := Lib.hid hP0; clear hP0
  go_enter Tryz.func18, Tryz.ntmps18
  go_wp2_with fail
  refine (divided_d t w hsz).mono ?_
  rintro e w1 ⟨hk1, v, rfl, hrow⟩
  have hlen := Lx.dv_len t.data.toList
  obtain ⟨r, hr⟩ : ∃ r, r = Lx.dv t.data.toList := ⟨_, rfl⟩
  rw [← hr] at hrow hlen
  rw [← hr] at HP0
  rw [← hr]
  clear hr
  go_wp2_with fail
  refine (mappedT_c r.1 v w1 (Rd.of_own cellsPc_length hrow) hlen).mono ?_
  rintro e w2 ⟨v', rfl, hk2, hrow2⟩
  go_wp2_with fail
  refine bodyPost_ret (results_tmp3 rfl _ _ _) rfl ?_
  rw [HP0.out]
  exact ⟨hk1.trans hk2, v', rfl, ownsRow_base hrow2 hk1.size⟩

set_option maxRecDepth 100000 in
set_option maxHeartbeats 1000000 in
theorem ends_c (t : ByteArray) (w : World) (hsz : t.size ≤ 1100000) : Calls Tryz.prog 20 #[.string t] w fun e w' => Kp [] w w' ∧
    ∃ v, e = .returned (.tuple #[v, .int .i64 (Lx.dv t.data.toList).2.1, .int .i64 (Lx.dv t.data.toList).2.2]) ∧ w'.ownsRow w.heap.size 3 1 v (Lx.dv t.data.toList).1.length (((Lx.dv t.data.toList).1.map (·.to)).flatMap cellsI) := by
  obtain ⟨P0, hP0⟩ : ∃ P0 : Ending → World → Prop, P0 = fun e w' => Kp [] w w' ∧ ∃ v, e = .returned (.tuple #[v, .int .i64 (Lx.dv t.data.toList).2.1, .int .i64 (Lx.dv t.data.toList).2.2]) ∧
    w'.ownsRow w.heap.size 3 1 v (Lx.dv t.data.toList).1.length (((Lx.dv t.data.toList).1.map (·.to)).flatMap cellsI) := ⟨_, rfl⟩
  rw [← hP0]
  have HP0 := Lib.hid hP0; clear hP0
  go_enter Tryz.func20, Tryz.ntmps20
  go_wp2_with fail
  refine (divided_d t w hsz).mono ?_
  rintro e w1 ⟨hk1, v, rfl, hrow⟩
  have hlen := Lx.dv_len t.data.toList
  obtain ⟨r, hr⟩ : ∃ r, r = Lx.dv t.data.toList := ⟨_, rfl⟩
  rw [← hr] at hrow hlen
  rw [← hr] at HP0
  rw [← hr]
  clear hr
  go_wp2_with fail
  refine (mappedI_c r.1 v w1 (Rd.of_own cellsPc_length hrow) hlen).mono ?_
  rintro e w2 ⟨v', rfl, hk2, hrow2⟩
  go_wp2_with fail
  refine bodyPost_ret (results_tmp3 rfl _ _ _) rfl ?_
  rw [HP0.out]
  exact ⟨hk1.trans hk2, v', rfl, ownsRow_base hrow2 hk1.size⟩

/-- The place of a byte. -/
def Lx.at (t : Lx.Bs) (i : Int) : Int × Int × Int := if 0 ≤ i ∧ i ≤ t.length then ((Lx.adv (t.take i.toNat) (1, 1)).1, (Lx.adv (t.take i.toNat) (1, 1)).2, 0) else (0, 0, 1)

set_option maxRecDepth 100000 in
set_option maxHeartbeats 1000000 in
theorem at_c (t : ByteArray) (i : Int) (w : World) (hsz : t.size ≤ 1100000) : Calls Tryz.prog 26 #[.string t, .int .i64 i] w fun e w' => Kp [] w w' ∧
    e = .returned (.tuple #[.int .i64 (Lx.at t.data.toList i).1, .int .i64 (Lx.at t.data.toList i).2.1, .int .i64 (Lx.at t.data.toList i).2.2]) := by
  obtain ⟨P0, hP0⟩ : ∃ P0 : Ending → World → Prop, P0 = fun e w' => Kp [] w w' ∧ e = .returned (.tuple #[.int .i64 (Lx.at t.data.toList i).1, .int .i64 (Lx.at t.data.toList i).2.1, .int .i64 (Lx.at t.data.toList i).2.2]) := ⟨_, rfl⟩
  rw [← hP0]
  have HP0 := Lib.hid hP0; clear hP0
  go_enter Tryz.func26, Tryz.ntmps26
  cases h0 : decide (i < 0)
  · have h0' : 0 ≤ i := by simpa using h0
    cases h1 : decide ((t.size : Int) < i)
    · have h1' : i ≤ t.size := by simpa using h1
      have hat : Lx.at t.data.toList i = ((Lx.adv (t.data.toList.take i.toNat) (1, 1)).1, (Lx.adv (t.data.toList.take i.toNat) (1, 1)).2, 0) := by
        unfold Lx.at; rw [if_pos ⟨h0', by rw [size_list]; exact h1'⟩]
      have HAT := Lib.hid hat; clear hat
      go_wp2_with fail
      have hR : RdL (w.alloc (.cells #[.int .i64 0, .int .i64 1, .int .i64 1, .string t, .int .i64 0] 89)) w.heap.size t 0 t.data.toList 1 1 0 :=
        ⟨heap_alloc_new w _, by simp, Nat.zero_le _, hsz, by omega, by simp, by omega, by simp⟩
      refine (forward_l i hR h0' (by rw [size_list]; exact h1')).mono ?_
      rintro e w1 ⟨rfl, hR1, hk1⟩
      have hk : Kp [] w w1 := ((Kp.refl [] w).alloc _).trans' hk1 (fun x hx => by simp at hx; right; omega)
      obtain ⟨f0, f1, f2, f3, f4, fz, hlt⟩ := hR1.rdr.facts
      have HK := Lib.hid hk; clear hk hk1 hR hR1
      obtain ⟨b, hb⟩ : ∃ b, b = w.heap.size := ⟨_, rfl⟩
      rw [← hb] at f0 f1 f2 f3 f4 fz hlt ⊢
      clear hb
      go_wp2_with fail
      go_quiet (fail)
      go_wp2
      refine bodyPost_ret (results_tmp3 rfl _ _ _) rfl ?_
      rw [HP0.out]
      exact ⟨HK.out.drewN _, by rw [HAT.out]; rfl⟩
    · go_wp2_with fail
      refine bodyPost_ret (results_tmp3 rfl _ _ _) rfl ?_
      rw [HP0.out]
      refine ⟨Kp.refl _ _, ?_⟩
      unfold Lx.at
      rw [if_neg (by rw [size_list]; have : (t.size : Int) < i := of_decide_eq_true h1; omega)]
      rfl
  · go_wp2_with fail
    refine bodyPost_ret (results_tmp3 rfl _ _ _) rfl ?_
    rw [HP0.out]
    refine ⟨Kp.refl _ _, ?_⟩
    unfold Lx.at
    rw [if_neg (by have : i < 0 := of_decide_eq_true h0; omega)]
    rfl

end Go.Proofs.YtogmealngeejmaaGreatDoor

/- The index of an element; Token; Kind. -/
namespace Go.Proofs.YtogmealngeejmaaGreatDoor
open Go Go.RowKit

/-- The index of the first element that is so, or -1. -/
def idxOf {α : Type} (p : α → Bool) (l : List α) : Int := match l.findIdx? p with
  | some k => k
  | none => -1

theorem idxOf_some {α : Type} {p : α → Bool} {l : List α} {k : Nat} {x : α} (h : ∀ j y, j < k → l[j]? = some y → p y = false) (hx : l[k]? = some x) (hp : p x = true) : idxOf p l = k := by
  unfold idxOf
  have : l.findIdx? p = some k := by
    rw [List.findIdx?_eq_some_iff_getElem]
    obtain ⟨hk, rfl⟩ := List.getElem?_eq_some_iff.1 hx
    refine ⟨hk, hp, fun j hj => ?_⟩
    have := h j l[j] hj (by simp [Nat.lt_trans hj hk])
    simp [this]
  rw [this]

theorem idxOf_none {α : Type} {p : α → Bool} {l : List α} (h : ∀ j y, j < l.length → l[j]? = some y → p y = false) : idxOf p l = -1 := by
  unfold idxOf
  have : l.findIdx? p = none := by
    rw [List.findIdx?_eq_none_iff]
    intro x hx
    obtain ⟨j, hj, rfl⟩ := List.getElem_of_mem hx
    exact h j _ hj (by simp [hj])
  rw [this]

set_option maxRecDepth 100000 in
set_option maxHeartbeats 1000000 in
theorem indexPc_c (l : List Lx.Pc) (v : Value) (w : World) (hr : Rd w v 6 cellsPc l) (hl : l.length ≤ 1100000) (p : Lx.Pc → Bool) (cf : FuncId) (cap : Array Value)
    (hent : ∀ args w, (callFunc cf args).run Tryz.prog w = .ok (.enter cf args) w)
    (hc : ∀ x wr, Kp [] w wr → Calls Tryz.prog cf (#[encPc x] ++ cap) wr fun e w' => e = .returned (.bool (p x)) ∧ Kp [] wr w') :
    Calls Tryz.prog 52 #[v, .func (.func cf) #[] cap] w fun e w' => e = .returned (.int .i64 (idxOf p l)) ∧ Kp [] w w' := by
  obtain ⟨P0, hP0⟩ : ∃ P0 : Ending → World → Prop, P0 = fun e w' => e = .returned (.int .i64 (idxOf p l)) ∧ Kp [] w w' := ⟨_, rfl⟩
  rw [← hP0]
  have HP0 := Lib.hid hP0; clear hP0
  have HCC := Lib.hid hc; clear hc
  by_cases hne : l = []
  · subst hne
    obtain ⟨_, ⟨⟨bE, cE, rfl⟩, _⟩ | ⟨g, off, cp, cur, e, z, rfl, _, _⟩⟩ := hr
    all_goals
      go_enter Tryz.func52, Tryz.ntmps52
      go_wp2_with fail
      go_loopg [8] 0 (fun n x wr => x = .int .i64 0 ∧ wr = w)
      case atStart => exact ⟨rfl, rfl⟩
      case round =>
        obtain ⟨rfl, rfl⟩ := hrel
        go_wp2_with fail
        rw [HP0.out]
        exact ⟨rfl, Kp.refl _ _⟩
  · obtain ⟨g, off, cp, rfl, hglt, hcell⟩ := hr.cells hne
    have HC := Lib.hid hcell; clear hcell hr
    go_enter Tryz.func52, Tryz.ntmps52
    go_wp2_with fail
    go_loopg [8] l.length (fun n x wr => ∃ k : Nat, n = l.length - k ∧ x = .int .i64 k ∧ k ≤ l.length ∧ Hid (∀ j y, j < k → l[j]? = some y → p y = false) ∧ Kp [] w wr)
    case atStart => exact ⟨0, rfl, rfl, Nat.zero_le _, fun j y hj => by omega, Kp.refl _ _⟩
    case round =>
      obtain ⟨k, rfl, rfl, hk, hall, hkp⟩ := hrel
      by_cases hkl : k = l.length
      · subst hkl
        have hb : decide ((l.length : Int) < l.length) = false := by simp
        go_wp2_with fail
        rw [HP0.out]
        exact ⟨by rw [idxOf_none hall.out]; rfl, hkp⟩
      · have hkl' : k < l.length := by omega
        have hb : decide ((k : Int) < l.length) = true := by simpa using hkl'
        obtain ⟨x, hx⟩ : ∃ x, l[k]? = some x := ⟨l[k], by simp [hkl']⟩
        have c0 : wr.cell? ⟨g, off + k * 6, none⟩ = some (.int .i64 x.kind) := (hkp.cell (p := ⟨g, _, none⟩) hglt (by simp)).trans (HC.out k x 0 _ hx rfl)
        have c1 : wr.cell? ⟨g, off + k * 6 + 1, none⟩ = some (.string ⟨x.text.toArray⟩) := (hkp.cell (p := ⟨g, _, none⟩) hglt (by simp)).trans (HC.out k x 1 _ hx rfl)
        have c2 : wr.cell? ⟨g, off + k * 6 + 2, none⟩ = some (.int .i64 x.line) := (hkp.cell (p := ⟨g, _, none⟩) hglt (by simp)).trans (HC.out k x 2 _ hx rfl)
        have c3 : wr.cell? ⟨g, off + k * 6 + 3, none⟩ = some (.int .i64 x.col) := (hkp.cell (p := ⟨g, _, none⟩) hglt (by simp)).trans (HC.out k x 3 _ hx rfl)
        have c4 : wr.cell? ⟨g, off + k * 6 + 4, none⟩ = some (.int .i64 x.frm) := (hkp.cell (p := ⟨g, _, none⟩) hglt (by simp)).trans (HC.out k x 4 _ hx rfl)
        have c5 : wr.cell? ⟨g, off + k * 6 + 5, none⟩ = some (.int .i64 x.to) := (hkp.cell (p := ⟨g, _, none⟩) hglt (by simp)).trans (HC.out k x 5 _ hx rfl)
        have HX := Lib.hid hx; clear hx
        go_wp2_with fail
        refine (HCC.out x wr hkp).mono ?_
        rintro e w2 ⟨rfl, hk2⟩
        have HK2 := Lib.hid (hkp.trans hk2); clear hk2 hkp
        cases hq : p x
        · have HQ := Lib.hid hq; clear hq
          go_wp2_with fail
          go_roundg (l.length - (k + 1))
          case measure => omega
          case rel =>
            refine ⟨k + 1, rfl, by simp, by omega, fun j y hj hy => ?_, HK2.out⟩
            by_cases hjk : j < k
            · exact hall.out j y hjk hy
            · obtain rfl : j = k := by omega
              rw [HX.out] at hy; cases hy; exact HQ.out
        · have HQ := Lib.hid hq; clear hq
          go_wp2_with fail
          rw [HP0.out]
          exact ⟨by rw [idxOf_some hall.out HX.out HQ.out]; rfl, HK2.out⟩

set_option maxRecDepth 100000 in
set_option maxHeartbeats 1000000 in
theorem token1_c (x : Lx.Pc) (i : Int) (ib : Nat) (w : World) (hi : w.cell? ⟨ib, 0, none⟩ = some (.int .i64 i)) : Calls Tryz.prog 53 #[encPc x, .pointer (some ⟨ib, 0, none⟩)] w fun e w' => e = .returned (.bool (decide (i < x.to))) ∧ Kp [] w w' := by
  have hlt : ib < w.heap.size := World.block_lt_of_cell? w _ hi
  unfold encPc
  go_enter Tryz.func53, Tryz.ntmps53
  go_wp2
  go_ret
  exact ⟨rfl, (Kp.refl [] w).alloc _⟩

/-- The index of the token that has a byte. -/
def Lx.tokenAt (t : Lx.Bs) (i : Int) : Int × Int × Nat :=
  if (Lx.dv t).2.1 ≠ 0 then (0, (Lx.dv t).2.1, (Lx.dv t).2.2)
  else if i < 0 ∨ (t.length : Int) ≤ i then (0, 1, 0)
  else if idxOf (fun p => decide (i < p.to)) (Lx.dv t).1 < 0 then (0, 3, 0)
  else (idxOf (fun p => decide (i < p.to)) (Lx.dv t).1, 0, 0)

set_option maxRecDepth 100000 in
set_option maxHeartbeats 1000000 in
theorem token_c (t : ByteArray) (i : Int) (w : World) (hsz : t.size ≤ 1100000) : Calls Tryz.prog 24 #[.string t, .int .i64 i] w fun e w' => Kp [] w w' ∧
    e = .returned (.tuple #[.int .i64 (Lx.tokenAt t.data.toList i).1, .int .i64 (Lx.tokenAt t.data.toList i).2.1, .int .i64 (Lx.tokenAt t.data.toList i).2.2]) := by
  obtain ⟨P0, hP0⟩ : ∃ P0 : Ending → World → Prop, P0 = fun e w' => Kp [] w w' ∧ e = .returned (.tuple #[.int .i64 (Lx.tokenAt t.data.toList i).1, .int .i64 (Lx.tokenAt t.data.toList i).2.1, .int .i64 (Lx.tokenAt t.data.toList i).2.2]) := ⟨_, rfl⟩
  rw [← hP0]
  have HP0 := Lib.hid hP0; clear hP0
  have hmf : ∀ (fn : Fn) (first cap : Array Value) (w : World), (Instr.makeFunc fn first cap).run Tryz.prog w = .ok (.func fn first cap) w := fun _ _ _ _ => rfl
  have hlen := size_list t
  have HLEN := Lib.hid hlen; clear hlen
  go_enter Tryz.func24, Tryz.ntmps24
  go_wp2_with fail
  refine (divided_d t _ hsz).mono ?_
  rintro e w1 ⟨hk1, v, rfl, hrow⟩
  have ib : w1.heap[w.heap.size]? = some (.cells #[.int .i64 i] 3 (0, 0)) := hk1.heap (heap_alloc_new w _) (by simp)
  have hk : Kp [] w w1 := ((Kp.refl [] w).alloc _).trans hk1
  have hl := Lx.dv_len t.data.toList
  have ht : Lx.tokenAt t.data.toList i = (if (Lx.dv t.data.toList).2.1 ≠ 0 then (0, (Lx.dv t.data.toList).2.1, (Lx.dv t.data.toList).2.2)
    else if i < 0 ∨ (t.data.toList.length : Int) ≤ i then (0, 1, 0)
    else if idxOf (fun p => decide (i < p.to)) (Lx.dv t.data.toList).1 < 0 then (0, 3, 0)
    else (idxOf (fun p => decide (i < p.to)) (Lx.dv t.data.toList).1, 0, 0)) := rfl
  rw [HLEN.out] at ht
  obtain ⟨R, hR⟩ : ∃ R, R = Lx.tokenAt t.data.toList i := ⟨_, rfl⟩
  rw [← hR] at ht HP0
  clear hR
  obtain ⟨⟨ps, er, a⟩, hr⟩ : ∃ r, r = Lx.dv t.data.toList := ⟨_, rfl⟩
  rw [← hr] at ht hl hrow ⊢
  clear hr
  simp only at ht hl hrow ⊢
  have HT := Lib.hid ht; clear ht
  have HK := Lib.hid hk; clear hk hk1
  have hrd := Rd.of_own cellsPc_length hrow
  clear hrow
  have fi : w1.cell? ⟨w.heap.size, 0, none⟩ = some (.int .i64 i) := cell_of_block ib 0
  have HIB := Lib.hid ib; clear ib
  by_cases he : er = 0
  · subst he
    cases h0 : decide (i < 0)
    · cases h1 : decide ((t.size : Int) ≤ i)
      · go_wp2_with fail
        have hent : ∀ args w, (callFunc 53 args).run Tryz.prog w = .ok (.enter 53 args) w := Proofs.enters_of Tryz.func53 (by kernel_rfl) rfl
        refine (indexPc_c ps v w1 hrd (by omega) (fun p => decide (i < p.to)) 53 #[.pointer (some ⟨w.heap.size, 0, none⟩)] hent (fun x wr hk => token1_c x i w.heap.size wr (cell_of_block (hk.heap HIB.out (by simp)) 0))).mono ?_
        rintro e w2 ⟨rfl, hk2⟩
        have HK2 := Lib.hid (HK.out.trans hk2); clear hk2
        have ht := HT.out
        rw [if_neg (by simp), if_neg (by simp at h0 h1; omega)] at ht
        obtain ⟨ix, hix⟩ : ∃ ix, ix = idxOf (fun p => decide (i < p.to)) ps := ⟨_, rfl⟩
        rw [← hix] at ht ⊢
        clear hix
        have HT2 := Lib.hid ht; clear ht
        cases h2 : decide (ix < 0)
        all_goals
          go_wp2_with fail
          refine bodyPost_ret (results_tmp3 rfl _ _ _) rfl ?_
          rw [HP0.out]
          refine ⟨HK2.out, ?_⟩
          rw [HT2.out]
          simp at h2
        · rw [if_neg (by omega)]; rfl
        · rw [if_pos h2]; rfl
      · go_wp2_with fail
        refine bodyPost_ret (results_tmp3 rfl _ _ _) rfl ?_
        rw [HP0.out]
        refine ⟨HK.out, ?_⟩
        rw [HT.out, if_neg (by simp), if_pos (.inr (of_decide_eq_true h1))]
        rfl
    · go_wp2_with fail
      refine bodyPost_ret (results_tmp3 rfl _ _ _) rfl ?_
      rw [HP0.out]
      refine ⟨HK.out, ?_⟩
      rw [HT.out, if_neg (by simp), if_pos (.inl (of_decide_eq_true h0))]
      rfl
  · have he1 : (er != 0) = true := by simpa using he
    have he2 : (er == 0) = false := by simpa using he
    go_wp2_with fail
    refine bodyPost_ret (results_tmp3 rfl _ _ _) rfl ?_
    rw [HP0.out]
    refine ⟨HK.out, ?_⟩
    rw [HT.out, if_pos he]
    rfl

end Go.Proofs.YtogmealngeejmaaGreatDoor

/- Kind; right. -/
namespace Go.Proofs.YtogmealngeejmaaGreatDoor
open Go Go.RowKit

/-- The kind of the token that is spelled so. -/
def Lx.kind (t : Lx.Bs) : Int :=
  if (Lx.dv t).2.1 = 0 then
    match (Lx.dv t).1 with
    | [p] => if p.frm = 0 ∧ p.to = t.length then p.kind else 0
    | _ => 0
  else 0

set_option maxRecDepth 100000 in
set_option maxHeartbeats 2000000 in
theorem kind_c (t : ByteArray) (w : World) (hsz : t.size ≤ 1100000) : Calls Tryz.prog 12 #[.string t] w fun e w' => Kp [] w w' ∧ e = .returned (.int .i64 (Lx.kind t.data.toList)) := by
  obtain ⟨P0, hP0⟩ : ∃ P0 : Ending → World → Prop, P0 = fun e w' => Kp [] w w' ∧ e = .returned (.int .i64 (Lx.kind t.data.toList)) := ⟨_, rfl⟩
  rw [← hP0]
  have HP0 := Lib.hid hP0; clear hP0
  have hlen := size_list t
  have ht : Lx.kind t.data.toList = (if (Lx.dv t.data.toList).2.1 = 0 then
    match (Lx.dv t.data.toList).1 with
    | [p] => if p.frm = 0 ∧ p.to = t.data.toList.length then p.kind else 0
    | _ => 0
  else 0) := rfl
  rw [hlen] at ht
  clear hlen
  obtain ⟨R, hR⟩ : ∃ R, R = Lx.kind t.data.toList := ⟨_, rfl⟩
  rw [← hR] at ht HP0
  clear hR
  go_enter Tryz.func12, Tryz.ntmps12
  go_wp2_with fail
  refine (divided_d t _ hsz).mono ?_
  rintro e w1 ⟨hk1, v, rfl, hrow⟩
  obtain ⟨⟨ps, er, a⟩, hr⟩ : ∃ r, r = Lx.dv t.data.toList := ⟨_, rfl⟩
  rw [← hr] at ht hrow ⊢
  clear hr
  simp only at ht hrow ⊢
  have HT := Lib.hid ht; clear ht
  have HK := Lib.hid hk1; clear hk1
  have hrd := Rd.of_own cellsPc_length hrow
  clear hrow
  by_cases he : er = 0
  · subst he
    cases ps with
    | nil =>
      obtain ⟨_, ⟨⟨bE, cE, rfl⟩, _⟩ | ⟨g, off, cap, cur, e, z, rfl, _, _⟩⟩ := hrd
      all_goals
        go_wp2_with fail
        rw [HP0.out]
        refine ⟨HK.out, ?_⟩
        rw [HT.out, if_pos trivial]
    | cons p ps =>
      obtain ⟨g, off, cap, rfl, hglt, hcell⟩ := hrd.cells (by simp)
      cases ps with
      | nil =>
        have c1 : w1.cell? ⟨g, off + 0 * 6, none⟩ = some (.int .i64 p.kind) := hcell 0 p 0 _ rfl rfl
        have c2 : w1.cell? ⟨g, off + 0 * 6 + 4, none⟩ = some (.int .i64 p.frm) := hcell 0 p 4 _ rfl rfl
        have c3 : w1.cell? ⟨g, off + 0 * 6 + 5, none⟩ = some (.int .i64 p.to) := hcell 0 p 5 _ rfl rfl
        simp only [Nat.zero_mul, Nat.add_zero] at c1 c2 c3
        clear hcell hrd
        by_cases h1 : p.frm = 0
        · have h1a : (((p.frm : Nat) : Int) != 0) = false := by simp [h1]
          have h1b : (((p.frm : Nat) : Int) == 0) = true := by simp [h1]
          by_cases h2 : p.to = t.size
          · have h2a : (((p.to : Nat) : Int) != t.size) = false := by simp [h2]
            have h2b : (((p.to : Nat) : Int) == t.size) = true := by simp [h2]
            go_wp2_with fail
            rw [HP0.out]
            refine ⟨HK.out, ?_⟩
            rw [HT.out, if_pos trivial]
            rw [if_pos ⟨h1, h2⟩]
          · have h2a : (((p.to : Nat) : Int) != t.size) = true := by simpa using fun h => h2 (by omega)
            have h2b : (((p.to : Nat) : Int) == t.size) = false := by simpa using fun h => h2 (by omega)
            go_wp2_with fail
            rw [HP0.out]
            refine ⟨HK.out, ?_⟩
            rw [HT.out, if_pos trivial]
            rw [if_neg (fun h => h2 h.2)]
        · have h1a : (((p.frm : Nat) : Int) != 0) = true := by simpa using h1
          have h1b : (((p.frm : Nat) : Int) == 0) = false := by simpa using h1
          go_wp2_with fail
          rw [HP0.out]
          refine ⟨HK.out, ?_⟩
          rw [HT.out, if_pos trivial]
          rw [if_neg (fun h => h1 h.1)]
      | cons q ps =>
        have h1a : (((p :: q :: ps).length : Int) != 1) = true := by simp; omega
        have h1b : (((p :: q :: ps).length : Int) == 1) = false := by simp; omega
        obtain ⟨n, hn⟩ : ∃ n, n = (p :: q :: ps).length := ⟨_, rfl⟩
        rw [← hn] at h1a h1b ⊢
        clear hn
        go_wp2_with fail
        rw [HP0.out]
        refine ⟨HK.out, ?_⟩
        rw [HT.out, if_pos trivial]
  · have he1 : (er != 0) = true := by simpa using he
    have he2 : (er == 0) = false := by simpa using he
    go_wp2_with fail
    rw [HP0.out]
    refine ⟨HK.out, ?_⟩
    rw [HT.out, if_neg he]
    rfl

end Go.Proofs.YtogmealngeejmaaGreatDoor

/- Bytes that are so; right. -/
namespace Go.Proofs.YtogmealngeejmaaGreatDoor
open Go Go.RowKit

theorem idxOf_any {α : Type} (p : α → Bool) (l : List α) : decide (0 ≤ idxOf p l) = l.any p := by
  unfold idxOf
  cases h : l.findIdx? p with
  | none =>
    rw [List.findIdx?_eq_none_iff] at h
    simp
    intro x hx; simpa using h x hx
  | some k =>
    rw [List.findIdx?_eq_some_iff_getElem] at h
    obtain ⟨hk, hp, _⟩ := h
    simp
    exact ⟨l[k], by simp, hp⟩

set_option maxRecDepth 100000 in
set_option maxHeartbeats 1000000 in
theorem indexB_c (f : FuncId) (p : UInt8 → Bool) (v : Value) (l : Lx.Bs) (w : World) (hv : BSl w v l) (hl : l.length ≤ 1100000)
    (hent : ∀ args w, (callFunc f args).run Tryz.prog w = .ok (.enter f args) w)
    (hp : ∀ (b : UInt8) (w : World), Calls Tryz.prog f #[.int .u8 b.toNat] w fun e w' => e = .returned (.bool (p b)) ∧ w = w') :
    Calls Tryz.prog 80 #[v, .func (.func f) #[] #[]] w fun e w' => e = .returned (.int .i64 (idxOf p l)) ∧ w = w' := by
  obtain ⟨a, c, rfl, hc, hcell⟩ := hv
  obtain ⟨P0, hP0⟩ : ∃ P0 : Ending → World → Prop, P0 = fun e w' => e = .returned (.int .i64 (idxOf p l)) ∧ w = w' := ⟨_, rfl⟩
  rw [← hP0]
  have HP0 := Lib.hid hP0; clear hP0
  go_enter Tryz.func80, Tryz.ntmps80
  go_wp2_with fail
  go_loopg [8] l.length (fun n x wr => ∃ k : Nat, n = l.length - k ∧ x = .int .i64 k ∧ k ≤ l.length ∧ Hid (∀ j y, j < k → l[j]? = some y → p y = false) ∧ wr = w)
  case atStart => exact ⟨0, rfl, rfl, Nat.zero_le _, fun j y hj => by omega, rfl⟩
  case round =>
    obtain ⟨k, rfl, rfl, hk, hall, rfl⟩ := hrel
    by_cases hkn : k < l.length
    · obtain ⟨b, o, rfl, hb, hcj⟩ := hcell (by intro e; subst e; simp at hkn)
      have hck := hcj k hkn
      clear hcj hcell
      have hb' : decide ((k : Int) < l.length) = true := by simpa using hkn
      have hx : l[k]? = some (l.getD k 0) := by simp [List.getD, hkn]
      have hkl : l.getD k 0 = l[k] := by simp [List.getD, hkn]
      obtain ⟨x, hxx⟩ : ∃ x, x = l.getD k 0 := ⟨_, rfl⟩
      rw [← hxx] at hck hx
      clear hxx hkl
      have HX := Lib.hid hx; clear hx
      go_wp2_with fail
      refine (hp x wr).mono ?_
      rintro e w' ⟨rfl, rfl⟩
      cases hq : p x
      · have HQ := Lib.hid hq; clear hq
        go_wp2_with fail
        go_roundg (l.length - (k + 1))
        case measure => omega
        case rel =>
          refine ⟨k + 1, rfl, by simp, by omega, fun j y hj hy => ?_, rfl⟩
          by_cases hjk : j < k
          · exact hall.out j y hjk hy
          · obtain rfl : j = k := by omega
            rw [HX.out] at hy; cases hy; exact HQ.out
      · have HQ := Lib.hid hq; clear hq
        go_wp2_with fail
        rw [HP0.out]
        exact ⟨by rw [idxOf_some hall.out HX.out HQ.out]; rfl, rfl⟩
    · obtain rfl : k = l.length := by omega
      have hb' : decide ((l.length : Int) < l.length) = false := by simp
      go_wp2_with fail
      rw [HP0.out]
      exact ⟨by rw [idxOf_none hall.out]; rfl, rfl⟩

set_option maxRecDepth 100000 in
set_option maxHeartbeats 1000000 in
theorem containsB_c (f : FuncId) (p : UInt8 → Bool) (v : Value) (l : Lx.Bs) (w : World) (hv : BSl w v l) (hl : l.length ≤ 1100000)
    (hent : ∀ args w, (callFunc f args).run Tryz.prog w = .ok (.enter f args) w)
    (hp : ∀ (b : UInt8) (w : World), Calls Tryz.prog f #[.int .u8 b.toNat] w fun e w' => e = .returned (.bool (p b)) ∧ w = w') :
    Calls Tryz.prog 67 #[v, .func (.func f) #[] #[]] w fun e w' => e = .returned (.bool (l.any p)) ∧ w = w' := by
  rw [← idxOf_any]
  go_enter Tryz.func67, Tryz.ntmps67
  go_wp2_with fail
  refine (indexB_c f p v l w hv hl hent hp).mono ?_
  rintro e w' ⟨rfl, rfl⟩
  go_wp2_with fail
  go_ret
  exact ⟨rfl, rfl⟩

def Lx.inside (n : Int) : Bool := decide (1 ≤ n) && decide (n ≤ 20001)
def Lx.odd (b : UInt8) : Bool := decide ((b.toNat : Int) < 32) || decide ((126 : Int) < b.toNat)

set_option maxRecDepth 100000 in
set_option maxHeartbeats 400000 in
theorem inside_c (n : Int) (w : World) : Calls Tryz.prog 66 #[.int .i64 n] w fun e w' => e = .returned (.bool (Lx.inside n)) ∧ w = w' := by
  unfold Lx.inside
  go_enter Tryz.func66, Tryz.ntmps66
  cases h : decide (1 ≤ n)
  all_goals
    go_wp2
    go_ret
    simp

set_option maxRecDepth 100000 in
set_option maxHeartbeats 400000 in
theorem odd_c (b : UInt8) (w : World) : Calls Tryz.prog 68 #[.int .u8 b.toNat] w fun e w' => e = .returned (.bool (Lx.odd b)) ∧ w = w' := by
  have hb := byte_lt b
  unfold Lx.odd
  go_enter Tryz.func68, Tryz.ntmps68
  cases h : decide ((b.toNat : Int) < 32)
  all_goals
    go_wp2
    go_ret
    simp

/-- A drawn region whose operations and callees keep what lies: walked once. The worlds are the values of a function. -/
theorem wp_region_kept {P : Program} {id : Nat} {Q : Exit → Act → World → Prop} {a : Act} {w : World} {l : List Oper} (hm : P.follows .mixedOrders = true) (hB : Region.lexB .any l.toArray = true)
    (h : ∀ (M : Type) [Nonempty M] (f : M → World), (∀ m, Kp [] w (f m)) → (∀ w', Kp [] w w' → ∃ m, w' = f m) →
      wpQuiet P l.toArray (fun w' => ∃ m, w' = f m) (fun a' => ∀ w', (∃ m, w' = f m) → Q .normal a' w') l a) : (Code.region id l.toArray true).wp P Q a w := by
  haveI : Nonempty {w' : World // Kp [] w w'} := ⟨⟨w, Kp.refl _ _⟩⟩
  have h1 := h {w' : World // Kp [] w w'} Subtype.val (fun m => m.2) (fun w' hk => ⟨⟨w', hk⟩, rfl⟩)
  exact wp_region_quiet (C := fun w' => ∃ m : {w' : World // Kp [] w w'}, w' = m.val) hm hB ⟨⟨_, (Kp.refl [] w).drew⟩, rfl⟩ (by simpa using h1)

def Lx.right (t : Tok) : Bool :=
  if (t.line ≠ 0 ∨ t.col ≠ 0) ∧ ¬ (Lx.inside t.line = true ∧ Lx.inside t.col = true) then false
  else if t.kind = 9 then t.text == [46]
  else if t.kind = 6 then !(t.text.any Lx.odd)
  else t.kind != 0 && Lx.kind t.text == t.kind

def encTk (x : Tok) : Value := .agg #[.int .i64 x.kind, .string ⟨x.text.toArray⟩, .int .i64 x.line, .int .i64 x.col]




/-- The bytes of a string that was just converted. -/
theorem bytes_own (l : Lx.Bs) (w : World) (e : TypeId) : BSl (Lib.bytesWorld w e ⟨l.toArray⟩) (.slice (some ⟨w.heap.size, 0, none⟩) l.length (grownCap w l.length 0 e)) l := by
  refine ⟨some ⟨w.heap.size, 0, none⟩, _, rfl, grownCap_ge w l.length 0 e, fun _ => ⟨w.heap.size, 0, rfl, ?_, fun j hj => ?_⟩⟩
  · rw [Lib.bytesWorld_size]; exact Nat.lt_succ_self _
  · have hz : (⟨l.toArray⟩ : ByteArray).size = l.length := by simp [ByteArray.size]
    rw [Nat.zero_add]
    have := Lib.bytesWorld_cell w e ⟨l.toArray⟩ j (by rw [hz]; exact hj)
    simpa using this

set_option maxRecDepth 100000 in
set_option maxHeartbeats 600000 in
theorem right_c (x : Tok) (w : World) (hsz : x.text.length ≤ 1100000) : Calls Tryz.prog 41 #[encTk x] w fun e w' => Kp [] w w' ∧ e = .returned (.bool (Lx.right x)) := by
  obtain ⟨P0, hP0⟩ : ∃ P0 : Ending → World → Prop, P0 = fun e w' => Kp [] w w' ∧ e = .returned (.bool (Lx.right x)) := ⟨_, rfl⟩
  rw [← hP0]
  have hr : Lx.right x = (if (x.line ≠ 0 ∨ x.col ≠ 0) ∧ ¬ (Lx.inside x.line = true ∧ Lx.inside x.col = true) then false
    else if x.kind = 9 then x.text == [46]
    else if x.kind = 6 then !(x.text.any Lx.odd)
    else x.kind != 0 && Lx.kind x.text == x.kind) := rfl
  obtain ⟨R, hR⟩ : ∃ R, R = Lx.right x := ⟨_, rfl⟩
  rw [← hR] at hr hP0
  clear hR
  have HP0 := Lib.hid hP0; clear hP0
  unfold encTk
  have hcv : ∀ (w : World) (s : ByteArray), (convert 9 50 (.string s)).run Tryz.prog w = .ok (.slice (some ⟨w.heap.size, 0, none⟩) s.size (grownCap w s.size 0 5)) (Lib.bytesWorld w 5 s) := fun w s =>
    Lib.run_convert_string_bytes w _ _ _ s Tryz.underlying9 Tryz.underlying50 Tryz.underlying5
  go_enter Tryz.func41, Tryz.ntmps41
  by_cases hl : x.line = 0
  · have l1 : (x.line != 0) = false := by simp [hl]
    have l2 : (x.line == 0) = true := by simp [hl]
    by_cases hc : x.col = 0
    · have l3 : (x.col != 0) = false := by simp [hc]
      have l4 : (x.col == 0) = true := by simp [hc]
      rw [if_neg (by simp [hl, hc])] at hr
      have HR := Lib.hid hr; clear hr
      clear hl hc
      by_cases k9 : x.kind = 9
      · have k9a : (x.kind == 9) = true := by simp [k9]
        have K9 := Lib.hid k9; clear k9
        go_wp2_with (go_at_call 66; refine (inside_c _ _).mono ?_; rintro e w' ⟨rfl, rfl⟩)
        rw [HP0.out]
        refine ⟨(Kp.refl [] w).alloc _, ?_⟩
        rw [HR.out, if_pos K9.out]; rfl
      · have k9a : (x.kind == 9) = false := by simpa using k9
        have K9 := Lib.hid k9; clear k9
        by_cases k6 : x.kind = 6
        · have k6a : (x.kind == 6) = true := by simp [k6]
          have K6 := Lib.hid k6; clear k6
          go_wp2_with (go_at_call 66; refine (inside_c _ _).mono ?_; rintro e w' ⟨rfl, rfl⟩)
          obtain ⟨w1, hw1⟩ : ∃ w1, w1 = w.alloc (.cells #[.int .i64 x.kind, .string ⟨x.text.toArray⟩, .int .i64 x.line, .int .i64 x.col] 34) := ⟨_, rfl⟩
          have hs1 : w1.heap.size = w.heap.size + 1 := by rw [hw1]; simp
          have hkw : Kp [] w w1 := by rw [hw1]; exact (Kp.refl [] w).alloc _
          rw [← hw1]
          have hB := containsB_c 68 Lx.odd _ x.text _ (bytes_own x.text w1 5) hsz (Proofs.enters_of Tryz.func68 (by kernel_rfl) rfl) odd_c
          rw [hs1] at hB
          refine hB.mono ?_
          rintro e w2 ⟨rfl, rfl⟩
          go_wp2_with fail
          rw [HP0.out]
          refine ⟨((Kp.refl [] w).alloc _).bytesWorld _ _, ?_⟩
          rw [HR.out, if_neg K9.out, if_pos K6.out]; rfl
        · have k6a : (x.kind == 6) = false := by simpa using k6
          have K6 := Lib.hid k6; clear k6
          obtain ⟨w1, hw1⟩ : ∃ w1, w1 = w.alloc (.cells #[.int .i64 x.kind, .string ⟨x.text.toArray⟩, .int .i64 x.line, .int .i64 x.col] 34) := ⟨_, rfl⟩
          have hbl : w1.heap[w.heap.size]? = some (.cells #[.int .i64 x.kind, .string ⟨x.text.toArray⟩, .int .i64 x.line, .int .i64 x.col] 34 (0, 0)) := by rw [hw1]; exact heap_alloc_new w _
          have hkw : Kp [] w w1 := by rw [hw1]; exact (Kp.refl [] w).alloc _
          go_wp2_with (go_at_call 66; refine (inside_c _ _).mono ?_; rintro e w' ⟨rfl, rfl⟩)
          rw [← hw1]
          refine wp_region_kept (by kernel_rfl) (by kernel_rfl) ?_
          intro M hM f hf hfr
          have c0 : ∀ m, (f m).cell? ⟨w.heap.size, 0, none⟩ = some (.int .i64 x.kind) := fun m => cell_of_block ((hf m).heap hbl (by simp)) 0
          have c1 : ∀ m, (f m).cell? ⟨w.heap.size, 1, none⟩ = some (.string ⟨x.text.toArray⟩) := fun m => cell_of_block ((hf m).heap hbl (by simp)) 1
          have HF := Lib.hid hf; clear hf
          have HFR := Lib.hid hfr; clear hfr
          have HBL := Lib.hid hbl; clear hbl
          have HKW := Lib.hid hkw; clear hkw
          have HW1 := Lib.hid hw1; clear hw1
          by_cases k0 : x.kind = 0
          · have k0a : (x.kind != 0) = false := by simp [k0]
            have k0b : (x.kind == 0) = true := by simp [k0]
            clear k0
            iterate 12 (go_big_quiet_step (fail))
            refine wpQuiet_nil ?_
            rintro _ ⟨m, rfl⟩
            have HM := Lib.hid (HKW.out.trans (HF.out m))
            go_wp2_with fail
            rw [HP0.out]
            refine ⟨HM.out, ?_⟩
            rw [HR.out, if_neg K9.out, if_neg K6.out, k0a]; rfl
          · have k0a : (x.kind != 0) = true := by simpa using k0
            have k0b : (x.kind == 0) = false := by simpa using k0
            clear k0
            iterate 12 (go_big_quiet_step ((refine (kind_c ⟨x.text.toArray⟩ _ (by simpa [ByteArray.size] using hsz)).mono ?_; rintro e w2 ⟨hk2, rfl⟩; exact ⟨rfl, HFR.out _ ((HF.out _).trans hk2)⟩)))
            refine wpQuiet_nil ?_
            rintro _ ⟨m, rfl⟩
            have HM := Lib.hid (HKW.out.trans (HF.out m))
            go_wp2_with fail
            rw [HP0.out]
            refine ⟨HM.out, ?_⟩
            rw [HR.out, if_neg K9.out, if_neg K6.out, k0a]; rfl
    · have l3 : (x.col != 0) = true := by simpa using hc
      have l4 : (x.col == 0) = false := by simpa using hc
      have hin : Lx.inside x.line = false := by rw [hl]; rfl
      rw [if_pos ⟨.inr hc, by rw [hin]; simp⟩] at hr
      have HR := Lib.hid hr; clear hr
      clear hl hc
      go_wp2_with (go_at_call 66; refine (inside_c _ _).mono ?_; rintro e w' ⟨rfl, rfl⟩)
      rw [HP0.out]
      refine ⟨(Kp.refl [] w).alloc _, ?_⟩
      rw [HR.out]
      rfl
  · have l1 : (x.line != 0) = true := by simpa using hl
    have l2 : (x.line == 0) = false := by simpa using hl
    cases hin : Lx.inside x.line
    · rw [if_pos ⟨.inl hl, by rw [hin]; simp⟩] at hr
      have HR := Lib.hid hr; clear hr
      clear hl
      go_wp2_with (go_at_call 66; refine (inside_c _ _).mono ?_; rintro e w' ⟨rfl, rfl⟩)
      rw [HP0.out]
      refine ⟨(Kp.refl [] w).alloc _, ?_⟩
      rw [HR.out]
      rfl
    · cases hin2 : Lx.inside x.col
      · rw [if_pos ⟨.inl hl, by rw [hin2]; simp⟩] at hr
        have HR := Lib.hid hr; clear hr
        clear hl
        go_wp2_with (go_at_call 66; refine (inside_c _ _).mono ?_; rintro e w' ⟨rfl, rfl⟩)
        rw [HP0.out]
        refine ⟨(Kp.refl [] w).alloc _, ?_⟩
        rw [HR.out]
        rfl
      · rw [if_neg (by rw [hin, hin2]; simp)] at hr
        have HR := Lib.hid hr; clear hr
        clear hl
        by_cases k9 : x.kind = 9
        · have k9a : (x.kind == 9) = true := by simp [k9]
          have K9 := Lib.hid k9; clear k9
          go_wp2_with (go_at_call 66; refine (inside_c _ _).mono ?_; rintro e w' ⟨rfl, rfl⟩)
          rw [HP0.out]
          refine ⟨(Kp.refl [] w).alloc _, ?_⟩
          rw [HR.out, if_pos K9.out]; rfl
        · have k9a : (x.kind == 9) = false := by simpa using k9
          have K9 := Lib.hid k9; clear k9
          by_cases k6 : x.kind = 6
          · have k6a : (x.kind == 6) = true := by simp [k6]
            have K6 := Lib.hid k6; clear k6
            go_wp2_with (go_at_call 66; refine (inside_c _ _).mono ?_; rintro e w' ⟨rfl, rfl⟩)
            obtain ⟨w1, hw1⟩ : ∃ w1, w1 = w.alloc (.cells #[.int .i64 x.kind, .string ⟨x.text.toArray⟩, .int .i64 x.line, .int .i64 x.col] 34) := ⟨_, rfl⟩
            have hs1 : w1.heap.size = w.heap.size + 1 := by rw [hw1]; simp
            have hkw : Kp [] w w1 := by rw [hw1]; exact (Kp.refl [] w).alloc _
            rw [← hw1]
            have hB := containsB_c 68 Lx.odd _ x.text _ (bytes_own x.text w1 5) hsz (Proofs.enters_of Tryz.func68 (by kernel_rfl) rfl) odd_c
            rw [hs1] at hB
            refine hB.mono ?_
            rintro e w2 ⟨rfl, rfl⟩
            go_wp2_with fail
            rw [HP0.out]
            refine ⟨((Kp.refl [] w).alloc _).bytesWorld _ _, ?_⟩
            rw [HR.out, if_neg K9.out, if_pos K6.out]; rfl
          · have k6a : (x.kind == 6) = false := by simpa using k6
            have K6 := Lib.hid k6; clear k6
            obtain ⟨w1, hw1⟩ : ∃ w1, w1 = w.alloc (.cells #[.int .i64 x.kind, .string ⟨x.text.toArray⟩, .int .i64 x.line, .int .i64 x.col] 34) := ⟨_, rfl⟩
            have hbl : w1.heap[w.heap.size]? = some (.cells #[.int .i64 x.kind, .string ⟨x.text.toArray⟩, .int .i64 x.line, .int .i64 x.col] 34 (0, 0)) := by rw [hw1]; exact heap_alloc_new w _
            have hkw : Kp [] w w1 := by rw [hw1]; exact (Kp.refl [] w).alloc _
            go_wp2_with (go_at_call 66; refine (inside_c _ _).mono ?_; rintro e w' ⟨rfl, rfl⟩)
            rw [← hw1]
            refine wp_region_kept (by kernel_rfl) (by kernel_rfl) ?_
            intro M hM f hf hfr
            have c0 : ∀ m, (f m).cell? ⟨w.heap.size, 0, none⟩ = some (.int .i64 x.kind) := fun m => cell_of_block ((hf m).heap hbl (by simp)) 0
            have c1 : ∀ m, (f m).cell? ⟨w.heap.size, 1, none⟩ = some (.string ⟨x.text.toArray⟩) := fun m => cell_of_block ((hf m).heap hbl (by simp)) 1
            have HF := Lib.hid hf; clear hf
            have HFR := Lib.hid hfr; clear hfr
            have HBL := Lib.hid hbl; clear hbl
            have HKW := Lib.hid hkw; clear hkw
            have HW1 := Lib.hid hw1; clear hw1
            by_cases k0 : x.kind = 0
            · have k0a : (x.kind != 0) = false := by simp [k0]
              have k0b : (x.kind == 0) = true := by simp [k0]
              clear k0
              iterate 12 (go_big_quiet_step (fail))
              refine wpQuiet_nil ?_
              rintro _ ⟨m, rfl⟩
              have HM := Lib.hid (HKW.out.trans (HF.out m))
              go_wp2_with fail
              rw [HP0.out]
              refine ⟨HM.out, ?_⟩
              rw [HR.out, if_neg K9.out, if_neg K6.out, k0a]; rfl
            · have k0a : (x.kind != 0) = true := by simpa using k0
              have k0b : (x.kind == 0) = false := by simpa using k0
              clear k0
              iterate 12 (go_big_quiet_step ((refine (kind_c ⟨x.text.toArray⟩ _ (by simpa [ByteArray.size] using hsz)).mono ?_; rintro e w2 ⟨hk2, rfl⟩; exact ⟨rfl, HFR.out _ ((HF.out _).trans hk2)⟩)))
              refine wpQuiet_nil ?_
              rintro _ ⟨m, rfl⟩
              have HM := Lib.hid (HKW.out.trans (HF.out m))
              go_wp2_with fail
              rw [HP0.out]
              refine ⟨HM.out, ?_⟩
              rw [HR.out, if_neg K9.out, if_neg K6.out, k0a]; rfl

end Go.Proofs.YtogmealngeejmaaGreatDoor
