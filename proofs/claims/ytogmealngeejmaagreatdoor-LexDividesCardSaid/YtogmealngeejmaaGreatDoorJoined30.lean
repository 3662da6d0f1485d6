import Derived.Test.YtogmealngeejmaaGreatDoorJoined29
import Derived.Test.YtogmealngeejmaaGreatDoorJoined24
/- weight, brief. -/
namespace Go.Proofs.YtogmealngeejmaaGreatDoor
open Go Go.RowKit

def Lx.wt : Nat → List Tok → Nat
  | n, [] => n
  | n, x :: l => if n ≤ 30000 then Lx.wt (n + x.text.length) l else n

set_option maxRecDepth 100000 in
set_option maxHeartbeats 1000000 in
theorem weight_c (l : List Tok) (v : Value) (w : World) (hr : Rd w v 4 cellsTk l) (hl : l.length ≤ 4611686018427387904) (hx : ∀ x ∈ l, x.text.length ≤ 4611686018427387904) :
    Calls Tryz.prog 7 #[v] w fun e w' => e = .returned (.int .i64 (Lx.wt 0 l)) ∧ w' = w := by
  obtain ⟨P0, hP0⟩ : ∃ P0 : Ending → World → Prop, P0 = fun e w' => e = .returned (.int .i64 (Lx.wt 0 l)) ∧ w' = w := ⟨_, rfl⟩
  rw [← hP0]
  have HP0 := Lib.hid hP0; clear hP0
  obtain ⟨bp, cap, rfl, hcell⟩ := hr.view
  have HCE := Lib.hid hcell; clear hcell hr
  have HX := Lib.hid hx; clear hx
  go_enter Tryz.func7, Tryz.ntmps7
  go_wp2_with fail
  go_loopg [3, 4] l.length (fun g x y wr => ∃ i n : Nat, g = l.length - i ∧ x = .int .i64 n ∧ y = .int .i64 i ∧ i ≤ l.length ∧ n ≤ 4611686018427487904 ∧ Hid (Lx.wt n (l.drop i) = Lx.wt 0 l) ∧ wr = w)
  case atStart => exact ⟨0, 0, rfl, rfl, rfl, Nat.zero_le _, by omega, rfl, rfl⟩
  case round =>
    obtain ⟨i, n, rfl, rfl, rfl, hi, hn, hw, rfl⟩ := hrel
    by_cases hil : i < l.length
    · have b1 : decide ((i : Int) < l.length) = true := decide_eq_true (by omega)
      obtain ⟨x, hx⟩ : ∃ x, l[i]? = some x := ⟨l[i], by simp [hil]⟩
      have hd : l.drop i = x :: l.drop (i + 1) := by
        rw [List.drop_eq_getElem_cons hil]
        obtain ⟨_, rfl⟩ := List.getElem?_eq_some_iff.1 hx
        rfl
      by_cases h3 : n ≤ 30000
      · have b2 : decide ((n : Int) ≤ 30000) = true := decide_eq_true (by omega)
        obtain ⟨g, o, rfl, hg, hc⟩ := HCE.out i x hx
        have c1 : wr.cell? ⟨g, o + i * 4 + 1, none⟩ = some (.string ⟨x.text.toArray⟩) := hc 1 _ rfl
        have hxl := HX.out x (List.mem_of_getElem? hx)
        have HW : Hid (Lx.wt (n + x.text.length) (l.drop (i + 1)) = Lx.wt 0 l) := Lib.hid (by rw [← hw.out, hd, Lx.wt, if_pos h3])
        have il' : (i : Int) < (l.length : Int) := by omega
        clear hd hx hc
        go_wp2_with fail
        go_roundg (l.length - (i + 1))
        case measure => omega
        case rel => exact ⟨i + 1, n + x.text.length, rfl, by simp, by simp, by omega, by omega, HW.out, rfl⟩
      · have b2 : decide ((n : Int) ≤ 30000) = false := decide_eq_false (by omega)
        have HW : Hid (n = Lx.wt 0 l) := Lib.hid (by rw [← hw.out, hd, Lx.wt, if_neg h3])
        clear hd hx h3
        go_wp2_with fail
        rw [HP0.out]
        exact ⟨by rw [← HW.out]; rfl, rfl⟩
    · have b1 : decide ((i : Int) < l.length) = false := decide_eq_false (by omega)
      have HW : Hid (n = Lx.wt 0 l) := Lib.hid (by rw [← hw.out, List.drop_eq_nil_of_le (by omega), Lx.wt])
      go_wp2_with fail
      rw [HP0.out]
      exact ⟨by rw [← HW.out]; rfl, rfl⟩

set_option maxRecDepth 100000 in
set_option maxHeartbeats 1000000 in
theorem brief_c (t : ByteArray) (w : World) : Calls Tryz.prog 6 #[.string t] w fun e w' => e = .returned (.bool (decide (t.size ≤ 3000) || (decide (20000 < t.size) && decide (t.size ≤ 40000)))) ∧ w' = w := by
  obtain ⟨P0, hP0⟩ : ∃ P0 : Ending → World → Prop, P0 = fun e w' => e = .returned (.bool (decide (t.size ≤ 3000) || (decide (20000 < t.size) && decide (t.size ≤ 40000)))) ∧ w' = w := ⟨_, rfl⟩
  rw [← hP0]
  have HP0 := Lib.hid hP0; clear hP0
  go_enter Tryz.func6, Tryz.ntmps6
  by_cases h1 : t.size ≤ 3000
  · have a1 : decide ((t.size : Int) ≤ 3000) = true := decide_eq_true (by omega)
    have H1 := Lib.hid h1; clear h1
    go_wp2_with fail
    rw [HP0.out]
    exact ⟨by rw [decide_eq_true H1.out]; rfl, rfl⟩
  · have a1 : decide ((t.size : Int) ≤ 3000) = false := decide_eq_false (by omega)
    have H1 := Lib.hid h1; clear h1
    by_cases h2 : 20000 < t.size
    · have a2 : decide ((20000 : Int) < t.size) = true := decide_eq_true (by omega)
      have H2 := Lib.hid h2; clear h2
      by_cases h3 : t.size ≤ 40000
      · have a3 : decide ((t.size : Int) ≤ 40000) = true := decide_eq_true (by omega)
        have H3 := Lib.hid h3; clear h3
        go_wp2_with fail
        rw [HP0.out]
        exact ⟨by rw [decide_eq_false H1.out, decide_eq_true H2.out, decide_eq_true H3.out]; rfl, rfl⟩
      · have a3 : decide ((t.size : Int) ≤ 40000) = false := decide_eq_false (by omega)
        have H3 := Lib.hid h3; clear h3
        go_wp2_with fail
        rw [HP0.out]
        exact ⟨by rw [decide_eq_false H1.out, decide_eq_true H2.out, decide_eq_false H3.out]; rfl, rfl⟩
    · have a2 : decide ((20000 : Int) < t.size) = false := decide_eq_false (by omega)
      have H2 := Lib.hid h2; clear h2
      go_wp2_with fail
      rw [HP0.out]
      exact ⟨by rw [decide_eq_false H1.out, decide_eq_false H2.out]; rfl, rfl⟩

end Go.Proofs.YtogmealngeejmaaGreatDoor

/- The examples at the head of the laws, in plain Lean. -/
namespace Go.Proofs.YtogmealngeejmaaGreatDoor
open Go Go.RowKit

def Lx.aw1 : List Lx.Pc := [⟨2, [97, 58], 1, 1, 0, 2⟩, ⟨5, [51], 1, 4, 3, 4⟩, ⟨7, [43], 1, 6, 5, 6⟩, ⟨1, [120], 1, 8, 7, 8⟩, ⟨6, [121], 1, 9, 8, 11⟩]
def Lx.aw2 : List Lx.Pc := [⟨1, [97], 1, 1, 0, 1⟩, ⟨9, [46], 1, 2, 1, 2⟩, ⟨1, [98], 1, 3, 2, 3⟩, ⟨1, [97], 1, 5, 4, 5⟩, ⟨8, [46], 1, 6, 5, 6⟩, ⟨1, [98], 1, 8, 7, 8⟩, ⟨6, [105, 116, 39, 115], 1, 10, 9, 16⟩]
def Lx.aw2t : List Tok := [⟨1, [97], 1, 1⟩, ⟨9, [46], 1, 2⟩, ⟨1, [98], 1, 3⟩, ⟨1, [97], 1, 5⟩, ⟨8, [46], 1, 6⟩, ⟨1, [98], 1, 8⟩, ⟨6, [105, 116, 39, 115], 1, 10⟩]
theorem Lx.aw_dv1 : Lx.dv [97, 58, 32, 51, 32, 43, 32, 120, 39, 121, 39] = (Lx.aw1, 0, 0) := by kernel_rfl
theorem Lx.aw_dv2 : Lx.dv [97, 46, 98, 32, 97, 46, 32, 98, 32, 39, 105, 116, 39, 39, 115, 39, 32, 34, 110, 111, 34] = (Lx.aw2, 0, 0) := by kernel_rfl
theorem Lx.aw_dv3 : Lx.dv [97, 32, 35, 32, 98] = ([], 10, 2) := by kernel_rfl
theorem Lx.aw_dv6 : Lx.dv [97, 32, 39, 98, 39, 32] = ([⟨1, [97], 1, 1, 0, 1⟩, ⟨6, [98], 1, 3, 2, 5⟩], 0, 0) := by kernel_rfl
theorem Lx.aw_map : Lx.aw2.map tkOf = Lx.aw2t := by kernel_rfl
theorem Lx.aw_print : Lx.print Lx.aw2t = ([97, 46, 98, 32, 97, 32, 46, 32, 98, 32, 39, 105, 116, 39, 39, 115, 39], 0) := by kernel_rfl
theorem Lx.aw_edit : Lx.edit [97, 98, 32, 99, 100, 32, 101, 102] 3 5 [120] = ([97, 98, 32, 120, 32, 101, 102], 1, 1, 0, 0) := by kernel_rfl
theorem Lx.aw_k1 : Lx.kind [97, 116, 58, 80, 117, 116, 58] = 0 := by kernel_rfl
theorem Lx.aw_k2 : Lx.kind [39, 97, 39] = 6 := by kernel_rfl
theorem Lx.aw_k3 : Lx.kind [45] = 7 := by kernel_rfl

end Go.Proofs.YtogmealngeejmaaGreatDoor

/- awake. -/
namespace Go.Proofs.YtogmealngeejmaaGreatDoor
open Go Go.RowKit

theorem lex_l (l : Lx.Bs) {ps : List Lx.Pc} {er : Int} {a : Nat} (hd : Lx.dv l = (ps, er, a)) (w : World) (hl : l.length ≤ 1100000) :
    Calls Tryz.prog 18 #[.string ⟨l.toArray⟩] w fun e w' => Kp [] w w' ∧ ∃ v, e = .returned (.tuple #[v, .int .i64 er, .int .i64 a]) ∧ Rd w' v 4 cellsTk (ps.map tkOf) := by
  have hs : (⟨l.toArray⟩ : ByteArray).size = l.length := by simp [ByteArray.size]
  have h := lex_c ⟨l.toArray⟩ w (by omega)
  rw [show (⟨l.toArray⟩ : ByteArray).data.toList = l from by simp, hd] at h
  refine h.mono ?_
  rintro e w' ⟨hk, v, rfl, hr⟩
  exact ⟨hk, v, rfl, Rd.of_own cellsTk_length (by simpa using hr)⟩

theorem ends_l (l : Lx.Bs) {ps : List Lx.Pc} {er : Int} {a : Nat} (hd : Lx.dv l = (ps, er, a)) (w : World) (hl : l.length ≤ 1100000) :
    Calls Tryz.prog 20 #[.string ⟨l.toArray⟩] w fun e w' => Kp [] w w' ∧ ∃ v, e = .returned (.tuple #[v, .int .i64 er, .int .i64 a]) ∧ Rd w' v 1 cellsI (ps.map (·.to)) := by
  have hs : (⟨l.toArray⟩ : ByteArray).size = l.length := by simp [ByteArray.size]
  have h := ends_c ⟨l.toArray⟩ w (by omega)
  rw [show (⟨l.toArray⟩ : ByteArray).data.toList = l from by simp, hd] at h
  refine h.mono ?_
  rintro e w' ⟨hk, v, rfl, hr⟩
  exact ⟨hk, v, rfl, Rd.of_own (fun _ => rfl) (by simpa using hr)⟩

theorem kind_l (l : Lx.Bs) {k : Int} (hd : Lx.kind l = k) (w : World) (hl : l.length ≤ 1100000) :
    Calls Tryz.prog 12 #[.string ⟨l.toArray⟩] w fun e w' => Kp [] w w' ∧ e = .returned (.int .i64 k) := by
  have hs : (⟨l.toArray⟩ : ByteArray).size = l.length := by simp [ByteArray.size]
  have h := kind_c ⟨l.toArray⟩ w (by omega)
  rwa [show (⟨l.toArray⟩ : ByteArray).data.toList = l from by simp, hd] at h

theorem edit_l (l x : Lx.Bs) (f g : Int) {r : Lx.Bs × Int × Int × Int × Nat} (hd : Lx.edit l f g x = r) (w : World) (hl : l.length ≤ 100000) (hx : x.length ≤ 100000) :
    Calls Tryz.prog 28 #[.string ⟨l.toArray⟩, .int .i64 f, .int .i64 g, .string ⟨x.toArray⟩] w fun e w' => Kp [] w w' ∧ e = .returned (.tuple #[.string ⟨r.1.toArray⟩, .int .i64 r.2.1, .int .i64 r.2.2.1, .int .i64 r.2.2.2.1, .int .i64 r.2.2.2.2]) := by
  have hs : (⟨l.toArray⟩ : ByteArray).size = l.length := by simp [ByteArray.size]
  have hs2 : (⟨x.toArray⟩ : ByteArray).size = x.length := by simp [ByteArray.size]
  have h := edit_c ⟨l.toArray⟩ f g ⟨x.toArray⟩ w (by omega) (by omega)
  rwa [show (⟨l.toArray⟩ : ByteArray).data.toList = l from by simp, show (⟨x.toArray⟩ : ByteArray).data.toList = x from by simp, hd] at h

set_option maxRecDepth 100000 in
set_option maxHeartbeats 4000000 in
theorem awake_c (w : World) (hm : ∃ m, w.cell? ⟨0, 0, none⟩ = some (.int .i64 m)) : Calls Tryz.prog 5 #[] w fun e w' => e = .returned (.bool true) ∧ Kp [] w w' := by
  obtain ⟨P0, hP0⟩ : ∃ P0 : Ending → World → Prop, P0 = fun e w' => e = .returned (.bool true) ∧ Kp [] w w' := ⟨_, rfl⟩
  rw [← hP0]
  have HP0 := Lib.hid hP0; clear hP0
  have HM : Hid (∀ W, Kp [] w W → ∃ m, W.cell? ⟨0, 0, none⟩ = some (.int .i64 m)) := Lib.hid (fun W hk => by
    obtain ⟨m, hm⟩ := hm
    exact ⟨m, (hk.cell (p := ⟨0, 0, none⟩) (World.block_lt_of_cell? w _ hm) (by simp)).trans hm⟩)
  clear hm
  go_enter Tryz.func5, Tryz.ntmps5
  go_wp2_with fail
  refine (lex_l [97, 58, 32, 51, 32, 43, 32, 120, 39, 121, 39] Lx.aw_dv1 w (by decide)).mono ?_
  rintro e w1 ⟨hk1, v1, rfl, hr1⟩
  have HK1 := Lib.hid hk1; clear hk1
  obtain ⟨g1, o1, cp1, rfl, hg1, hc1⟩ := hr1.cells (by decide)
  have HC1 := Lib.hid hc1; clear hc1
  go_wp2_with fail
  refine (lex_l [97, 46, 98, 32, 97, 46, 32, 98, 32, 39, 105, 116, 39, 39, 115, 39, 32, 34, 110, 111, 34] Lx.aw_dv2 w1 (by decide)).mono ?_
  rintro e w2 ⟨hk2, v2, rfl, hr2⟩
  have HK12 := Lib.hid hk2; clear hk2
  rw [Lx.aw_map] at hr2
  obtain ⟨g2, o2, cp2, rfl, hg2, hc2⟩ := hr2.cells (by decide)
  have HC2 := Lib.hid hc2; clear hc2
  have HR2 := Lib.hid hr2; clear hr2
  go_wp2_with fail
  refine (lex_l [97, 32, 35, 32, 98] Lx.aw_dv3 w2 (by decide)).mono ?_
  rintro e w3 ⟨hk3, v3, rfl, _⟩
  have HK23 := Lib.hid hk3; clear hk3
  go_wp2_with fail
  refine (print_c Lx.aw2t _ w3 (HR2.out.keep HK23.out) (by decide) (HM.out w3 ((HK1.out.trans HK12.out).trans HK23.out))).mono ?_
  rw [Lx.aw_print]
  rintro e w4 ⟨rfl, hk4⟩
  have HK34 := Lib.hid hk4; clear hk4
  go_wp2_with fail
  refine (edit_l [97, 98, 32, 99, 100, 32, 101, 102] [120] 3 5 Lx.aw_edit w4 (by decide) (by decide)).mono ?_
  rintro e w5 ⟨hk5, rfl⟩
  have HK45 := Lib.hid hk5; clear hk5
  go_wp2_with fail
  refine (ends_l [97, 32, 39, 98, 39, 32] Lx.aw_dv6 w5 (by decide)).mono ?_
  rintro e w6 ⟨hk6, v6, rfl, hr6⟩
  have HK56 := Lib.hid hk6; clear hk6
  have HR6 := Lib.hid hr6; clear hr6
  have hk16 : Kp [] w1 w6 := (((HK12.out.trans HK23.out).trans HK34.out).trans HK45.out).trans HK56.out
  have hk26 : Kp [] w2 w6 := ((HK23.out.trans HK34.out).trans HK45.out).trans HK56.out
  have HKW := Lib.hid (HK1.out.trans hk16)
  have get1 : ∀ i (x : Tok) j u, (Lx.aw1.map tkOf)[i]? = some x → (cellsTk x)[j]? = some u → w6.cell? ⟨g1, o1 + (i * 4 + j), none⟩ = some u := fun i x j u hx hu => (hk16.cell (p := ⟨g1, _, none⟩) hg1 (by simp)).trans (HC1.out i x j u hx hu)
  have get2 : ∀ i (x : Tok) j u, Lx.aw2t[i]? = some x → (cellsTk x)[j]? = some u → w6.cell? ⟨g2, o2 + (i * 4 + j), none⟩ = some u := fun i x j u hx hu => (hk26.cell (p := ⟨g2, _, none⟩) hg2 (by simp)).trans (HC2.out i x j u hx hu)
  have a0 : w6.cell? ⟨g1, o1, none⟩ = some (.int .i64 2) := get1 0 _ 0 _ rfl rfl
  have a1 : w6.cell? ⟨g1, o1 + 1, none⟩ = some (.string ⟨#[97, 58]⟩) := get1 0 _ 1 _ rfl rfl
  have a2 : w6.cell? ⟨g1, o1 + 2, none⟩ = some (.int .i64 1) := get1 0 _ 2 _ rfl rfl
  have a3 : w6.cell? ⟨g1, o1 + 3, none⟩ = some (.int .i64 1) := get1 0 _ 3 _ rfl rfl
  have b0 : w6.cell? ⟨g1, o1 + 16, none⟩ = some (.int .i64 6) := get1 4 _ 0 _ rfl rfl
  have b1 : w6.cell? ⟨g1, o1 + 16 + 1, none⟩ = some (.string ⟨#[121]⟩) := get1 4 _ 1 _ rfl rfl
  have b2 : w6.cell? ⟨g1, o1 + 16 + 2, none⟩ = some (.int .i64 1) := get1 4 _ 2 _ rfl rfl
  have b3 : w6.cell? ⟨g1, o1 + 16 + 3, none⟩ = some (.int .i64 9) := get1 4 _ 3 _ rfl rfl
  have m0 : w6.cell? ⟨g2, o2 + 4, none⟩ = some (.int .i64 9) := get2 1 _ 0 _ rfl rfl
  have m1 : w6.cell? ⟨g2, o2 + 16, none⟩ = some (.int .i64 8) := get2 4 _ 0 _ rfl rfl
  have m2 : w6.cell? ⟨g2, o2 + 24 + 1, none⟩ = some (.string ⟨#[105, 116, 39, 115]⟩) := get2 6 _ 1 _ rfl rfl
  clear get1 get2 hk16 hk26 HC1 HC2 HR2
  rw [show Lx.aw1.length = 5 from rfl, show Lx.aw2t.length = 7 from rfl]
  go_wp2_with fail
  obtain ⟨w7, hw7⟩ : ∃ w7, w7 = w6.alloc (.cells #[.int .i64 1, .int .i64 5] 3) := ⟨_, rfl⟩
  have hk7 : Kp [] w6 w7 := by rw [hw7]; exact (Kp.refl [] w6).alloc _
  have hb7 : w7.heap[w6.heap.size]? = some (.cells #[.int .i64 1, .int .i64 5] 3 (0, 0)) := by rw [hw7]; exact heap_alloc_new w6 _
  rw [← hw7]
  clear hw7
  refine (sameInts_c [1, 5] [1, 5] v6 (.slice (some ⟨w6.heap.size, 0, none⟩) 2 2) w7 (HR6.out.keep hk7) ⟨fun _ => rfl, .inr ⟨w6.heap.size, 0, 2, _, _, _, rfl, hb7, rfl⟩⟩ (by decide) (by decide)).mono ?_
  rw [show eqBy (fun x y : Nat => x == y) [1, 5] [1, 5] = true from rfl]
  rintro e w8 ⟨rfl, hk8⟩
  have HK8 := Lib.hid ((HKW.out.trans hk7).trans hk8); clear hk8 hk7 hb7 a0 a1 a2 a3 b0 b1 b2 b3 m0 m1 m2
  go_wp2_with fail
  refine (kind_l [97, 116, 58, 80, 117, 116, 58] Lx.aw_k1 w8 (by decide)).mono ?_
  rintro e w9 ⟨hk9, rfl⟩
  have HK9 := Lib.hid (HK8.out.trans hk9); clear hk9
  go_wp2_with fail
  refine (kind_l [39, 97, 39] Lx.aw_k2 w9 (by decide)).mono ?_
  rintro e w10 ⟨hk10, rfl⟩
  have HK10 := Lib.hid (HK9.out.trans hk10); clear hk10
  go_wp2_with fail
  refine (kind_l [45] Lx.aw_k3 w10 (by decide)).mono ?_
  rintro e w11 ⟨hk11, rfl⟩
  have HK11 := Lib.hid (HK10.out.trans hk11); clear hk11
  go_wp2_with fail
  rw [HP0.out]
  exact ⟨rfl, HK11.out⟩

end Go.Proofs.YtogmealngeejmaaGreatDoor
