/- awake. -/
import Derived.Test.YtogmealngeejmaaDoorLexAw
namespace Go.Proofs.YtogmealngeejmaaDoor
open Go Go.RowKit

theorem lex_l (l : Lx.Bs) {ps : List Lx.Pc} {er : Int} {a : Nat} (hd : Lx.dv l = (ps, er, a)) (w : World) (hl : l.length ≤ 1000000) :
    Calls Tryd.prog 8 #[.string ⟨l.toArray⟩] w fun e w' => Kp [] w w' ∧ ∃ v, e = .returned (.tuple #[v, .int .i64 er, .int .i64 a]) ∧ Rd w' v 4 cellsTk (ps.map tkOf) := by
  have hs : (⟨l.toArray⟩ : ByteArray).size = l.length := by simp [ByteArray.size]
  have h := lex_c ⟨l.toArray⟩ w (by omega)
  rw [show (⟨l.toArray⟩ : ByteArray).data.toList = l from by simp, hd] at h
  refine h.mono ?_
  rintro e w' ⟨hk, v, rfl, hr⟩
  exact ⟨hk, v, rfl, Rd.of_own cellsTk_length (by simpa using hr)⟩

theorem ends_l (l : Lx.Bs) {ps : List Lx.Pc} {er : Int} {a : Nat} (hd : Lx.dv l = (ps, er, a)) (w : World) (hl : l.length ≤ 1000000) :
    Calls Tryd.prog 16 #[.string ⟨l.toArray⟩] w fun e w' => Kp [] w w' ∧ ∃ v, e = .returned (.tuple #[v, .int .i64 er, .int .i64 a]) ∧ Rd w' v 1 cellsI (ps.map (·.to)) := by
  have hs : (⟨l.toArray⟩ : ByteArray).size = l.length := by simp [ByteArray.size]
  have h := ends_c ⟨l.toArray⟩ w (by omega)
  rw [show (⟨l.toArray⟩ : ByteArray).data.toList = l from by simp, hd] at h
  refine h.mono ?_
  rintro e w' ⟨hk, v, rfl, hr⟩
  exact ⟨hk, v, rfl, Rd.of_own (fun _ => rfl) (by simpa using hr)⟩

theorem kind_l (l : Lx.Bs) {k : Int} (hd : Lx.kind l = k) (w : World) (hl : l.length ≤ 1000000) :
    Calls Tryd.prog 20 #[.string ⟨l.toArray⟩] w fun e w' => Kp [] w w' ∧ e = .returned (.int .i64 k) := by
  have hs : (⟨l.toArray⟩ : ByteArray).size = l.length := by simp [ByteArray.size]
  have h := kind_c ⟨l.toArray⟩ w (by omega)
  rwa [show (⟨l.toArray⟩ : ByteArray).data.toList = l from by simp, hd] at h

theorem edit_l (l x : Lx.Bs) (f g : Int) {r : Lx.Bs × Int × Int × Int × Nat} (hd : Lx.edit l f g x = r) (w : World) (hl : l.length ≤ 100000) (hx : x.length ≤ 100000) :
    Calls Tryd.prog 7 #[.string ⟨l.toArray⟩, .int .i64 f, .int .i64 g, .string ⟨x.toArray⟩] w fun e w' => Kp [] w w' ∧ e = .returned (.tuple #[.string ⟨r.1.toArray⟩, .int .i64 r.2.1, .int .i64 r.2.2.1, .int .i64 r.2.2.2.1, .int .i64 r.2.2.2.2]) := by
  have hs : (⟨l.toArray⟩ : ByteArray).size = l.length := by simp [ByteArray.size]
  have hs2 : (⟨x.toArray⟩ : ByteArray).size = x.length := by simp [ByteArray.size]
  have h := edit_c ⟨l.toArray⟩ f g ⟨x.toArray⟩ w (by omega) (by omega)
  rwa [show (⟨l.toArray⟩ : ByteArray).data.toList = l from by simp, show (⟨x.toArray⟩ : ByteArray).data.toList = x from by simp, hd] at h

set_option maxRecDepth 100000 in
set_option maxHeartbeats 4000000 in
theorem awake_c (w : World) (hm : ∃ m, w.cell? ⟨0, 0, none⟩ = some (.int .i64 m)) : Calls Tryd.prog 6 #[] w fun e w' => e = .returned (.bool true) ∧ Kp [] w w' := by
  obtain ⟨P0, hP0⟩ : ∃ P0 : Ending → World → Prop, P0 = fun e w' => e = .returned (.bool true) ∧ Kp [] w w' := ⟨_, rfl⟩
  rw [← hP0]
  have HP0 := Lib.hid hP0; clear hP0
  have HM : Hid (∀ W, Kp [] w W → ∃ m, W.cell? ⟨0, 0, none⟩ = some (.int .i64 m)) := Lib.hid (fun W hk => by
    obtain ⟨m, hm⟩ := hm
    exact ⟨m, (hk.cell (p := ⟨0, 0, none⟩) (World.block_lt_of_cell? w _ hm) (by simp)).trans hm⟩)
  clear hm
  go_enter Tryd.func6, Tryd.ntmps6
  go_wp2_with fail
  refine (lex_l [97, 58, 32, 51, 32, 43, 32, 120, 39, 121, 39] Lx.aw_dv1 w (by decide)).mono ?_
  rintro e w1 ⟨hk1, v1, rfl, hr1⟩
  have HK1 := Lib.hid hk1; clear hk1
  obtain ⟨g1, o1, cp1, rfl, hg1, hc1⟩ := hr1.cells (by decide)
  have HC1 := Lib.hid hc1; clear hc1
  go_wp2_with fail
  refine (lex_l [97, 46, 98, 32, 97, 46, 32, 98, 32, 39, 105, 116, 39, 39, 115, 39, 32, 34, 110, 111, 34] Lx.aw_dv2 w1 (by decide)).mono ?_
  rintro e w2 ⟨hk2, v2, rfl, hr2⟩
  have HK12 := Lib.hid hk2; clear hk2
  rw [Lx.aw_map] at hr2
  obtain ⟨g2, o2, cp2, rfl, hg2, hc2⟩ := hr2.cells (by decide)
  have HC2 := Lib.hid hc2; clear hc2
  have HR2 := Lib.hid hr2; clear hr2
  go_wp2_with fail
  refine (lex_l [97, 32, 35, 32, 98] Lx.aw_dv3 w2 (by decide)).mono ?_
  rintro e w3 ⟨hk3, v3, rfl, _⟩
  have HK23 := Lib.hid hk3; clear hk3
  go_wp2_with fail
  refine (print_c Lx.aw2t _ w3 (HR2.out.keep HK23.out) (by decide) (HM.out w3 ((HK1.out.trans HK12.out).trans HK23.out))).mono ?_
  rw [Lx.aw_print]
  rintro e w4 ⟨rfl, hk4⟩
  have HK34 := Lib.hid hk4; clear hk4
  go_wp2_with fail
  refine (edit_l [97, 98, 32, 99, 100, 32, 101, 102] [120] 3 5 Lx.aw_edit w4 (by decide) (by decide)).mono ?_
  rintro e w5 ⟨hk5, rfl⟩
  have HK45 := Lib.hid hk5; clear hk5
  go_wp2_with fail
  refine (ends_l [97, 32, 39, 98, 39, 32] Lx.aw_dv6 w5 (by decide)).mono ?_
  rintro e w6 ⟨hk6, v6, rfl, hr6⟩
  have HK56 := Lib.hid hk6; clear hk6
  have HR6 := Lib.hid hr6; clear hr6
  have hk16 : Kp [] w1 w6 := (((HK12.out.trans HK23.out).trans HK34.out).trans HK45.out).trans HK56.out
  have hk26 : Kp [] w2 w6 := ((HK23.out.trans HK34.out).trans HK45.out).trans HK56.out
  have HKW := Lib.hid (HK1.out.trans hk16)
  have get1 : ∀ i (x : Tok) j u, (Lx.aw1.map tkOf)[i]? = some x → (cellsTk x)[j]? = some u → w6.cell? ⟨g1, o1 + (i * 4 + j), none⟩ = some u := fun i x j u hx hu => (hk16.cell (p := ⟨g1, _, none⟩) hg1 (by simp)).trans (HC1.out i x j u hx hu)
  have get2 : ∀ i (x : Tok) j u, Lx.aw2t[i]? = some x → (cellsTk x)[j]? = some u → w6.cell? ⟨g2, o2 + (i * 4 + j), none⟩ = some u := fun i x j u hx hu => (hk26.cell (p := ⟨g2, _, none⟩) hg2 (by simp)).trans (HC2.out i x j u hx hu)
  have a0 : w6.cell? ⟨g1, o1, none⟩ = some (.int .i64 2) := get1 0 _ 0 _ rfl rfl
  have a1 : w6.cell? ⟨g1, o1 + 1, none⟩ = some (.string ⟨#[97, 58]⟩) := get1 0 _ 1 _ rfl rfl
  have a2 : w6.cell? ⟨g1, o1 + 2, none⟩ = some (.int .i64 1) := get1 0 _ 2 _ rfl rfl
  have a3 : w6.cell? ⟨g1, o1 + 3, none⟩ = some (.int .i64 1) := get1 0 _ 3 _ rfl rfl
  have b0 : w6.cell? ⟨g1, o1 + 16, none⟩ = some (.int .i64 6) := get1 4 _ 0 _ rfl rfl
  have b1 : w6.cell? ⟨g1, o1 + 16 + 1, none⟩ = some (.string ⟨#[121]⟩) := get1 4 _ 1 _ rfl rfl
  have b2 : w6.cell? ⟨g1, o1 + 16 + 2, none⟩ = some (.int .i64 1) := get1 4 _ 2 _ rfl rfl
  have b3 : w6.cell? ⟨g1, o1 + 16 + 3, none⟩ = some (.int .i64 9) := get1 4 _ 3 _ rfl rfl
  have m0 : w6.cell? ⟨g2, o2 + 4, none⟩ = some (.int .i64 9) := get2 1 _ 0 _ rfl rfl
  have m1 : w6.cell? ⟨g2, o2 + 16, none⟩ = some (.int .i64 8) := get2 4 _ 0 _ rfl rfl
  have m2 : w6.cell? ⟨g2, o2 + 24 + 1, none⟩ = some (.string ⟨#[105, 116, 39, 115]⟩) := get2 6 _ 1 _ rfl rfl
  clear get1 get2 hk16 hk26 HC1 HC2 HR2
  rw [show Lx.aw1.length = 5 from rfl, show Lx.aw2t.length = 7 from rfl]
  go_wp2_with fail
  obtain ⟨w7, hw7⟩ : ∃ w7, w7 = w6.alloc (.cells #[.int .i64 1, .int .i64 5] 3) := ⟨_, rfl⟩
  have hk7 : Kp [] w6 w7 := by rw [hw7]; exact (Kp.refl [] w6).alloc _
  have hb7 : w7.heap[w6.heap.size]? = some (.cells #[.int .i64 1, .int .i64 5] 3 (0, 0)) := by rw [hw7]; exact heap_alloc_new w6 _
  rw [← hw7]
  clear hw7
  refine (sameInts_c [1, 5] [1, 5] v6 (.slice (some ⟨w6.heap.size, 0, none⟩) 2 2) w7 (HR6.out.keep hk7) ⟨fun _ => rfl, .inr ⟨w6.heap.size, 0, 2, _, _, _, rfl, hb7, rfl⟩⟩ (by decide) (by decide)).mono ?_
  rw [show eqBy (fun x y : Nat => x == y) [1, 5] [1, 5] = true from rfl]
  rintro e w8 ⟨rfl, hk8⟩
  have HK8 := Lib.hid ((HKW.out.trans hk7).trans hk8); clear hk8 hk7 hb7 a0 a1 a2 a3 b0 b1 b2 b3 m0 m1 m2
  go_wp2_with fail
  refine (kind_l [97, 116, 58, 80, 117, 116, 58] Lx.aw_k1 w8 (by decide)).mono ?_
  rintro e w9 ⟨hk9, rfl⟩
  have HK9 := Lib.hid (HK8.out.trans hk9); clear hk9
  go_wp2_with fail
  refine (kind_l [39, 97, 39] Lx.aw_k2 w9 (by decide)).mono ?_
  rintro e w10 ⟨hk10, rfl⟩
  have HK10 := Lib.hid (HK9.out.trans hk10); clear hk10
  go_wp2_with fail
  refine (kind_l [45] Lx.aw_k3 w10 (by decide)).mono ?_
  rintro e w11 ⟨hk11, rfl⟩
  have HK11 := Lib.hid (HK10.out.trans hk11); clear hk11
  go_wp2_with fail
  rw [HP0.out]
  exact ⟨rfl, HK11.out⟩

end Go.Proofs.YtogmealngeejmaaDoor
