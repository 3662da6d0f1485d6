/- Kind; right. -/
import Derived.Test.YtogmealngeejmaaDoorLexQ
namespace Go.Proofs.YtogmealngeejmaaDoor
open Go Go.RowKit

/-- The kind of the token that is spelled so. -/
def Lx.kind (t : Lx.Bs) : Int :=
  if (Lx.dv t).2.1 = 0 then
    match (Lx.dv t).1 with
    | [p] => if p.frm = 0 ∧ p.to = t.length then p.kind else 0
    | _ => 0
  else 0

set_option maxRecDepth 100000 in
set_option maxHeartbeats 2000000 in
theorem kind_c (t : ByteArray) (w : World) (hsz : t.size ≤ 1000000) : Calls Tryd.prog 20 #[.string t] w fun e w' => Kp [] w w' ∧ e = .returned (.int .i64 (Lx.kind t.data.toList)) := by
  obtain ⟨P0, hP0⟩ : ∃ P0 : Ending → World → Prop, P0 = fun e w' => Kp [] w w' ∧ e = .returned (.int .i64 (Lx.kind t.data.toList)) := ⟨_, rfl⟩
  rw [← hP0]
  have HP0 := Lib.hid hP0; clear hP0
  have hlen := size_list t
  have ht : Lx.kind t.data.toList = (if (Lx.dv t.data.toList).2.1 = 0 then
    match (Lx.dv t.data.toList).1 with
    | [p] => if p.frm = 0 ∧ p.to = t.data.toList.length then p.kind else 0
    | _ => 0
  else 0) := rfl
  rw [hlen] at ht
  clear hlen
  obtain ⟨R, hR⟩ : ∃ R, R = Lx.kind t.data.toList := ⟨_, rfl⟩
  rw [← hR] at ht HP0
  clear hR
  go_enter Tryd.func20, Tryd.ntmps20
  go_wp2_with fail
  refine (divided_d t _ hsz).mono ?_
  rintro e w1 ⟨hk1, v, rfl, hrow⟩
  obtain ⟨⟨ps, er, a⟩, hr⟩ : ∃ r, r = Lx.dv t.data.toList := ⟨_, rfl⟩
  rw [← hr] at ht hrow ⊢
  clear hr
  simp only at ht hrow ⊢
  have HT := Lib.hid ht; clear ht
  have HK := Lib.hid hk1; clear hk1
  have hrd := Rd.of_own cellsPc_length hrow
  clear hrow
  by_cases he : er = 0
  · subst he
    cases ps with
    | nil =>
      obtain ⟨_, ⟨⟨bE, cE, rfl⟩, _⟩ | ⟨g, off, cap, cur, e, z, rfl, _, _⟩⟩ := hrd
      all_goals
        go_wp2_with fail
        rw [HP0.out]
        refine ⟨HK.out, ?_⟩
        rw [HT.out, if_pos trivial]
    | cons p ps =>
      obtain ⟨g, off, cap, rfl, hglt, hcell⟩ := hrd.cells (by simp)
      cases ps with
      | nil =>
        have c1 : w1.cell? ⟨g, off + 0 * 6, none⟩ = some (.int .i64 p.kind) := hcell 0 p 0 _ rfl rfl
        have c2 : w1.cell? ⟨g, off + 0 * 6 + 4, none⟩ = some (.int .i64 p.frm) := hcell 0 p 4 _ rfl rfl
        have c3 : w1.cell? ⟨g, off + 0 * 6 + 5, none⟩ = some (.int .i64 p.to) := hcell 0 p 5 _ rfl rfl
        simp only [Nat.zero_mul, Nat.add_zero] at c1 c2 c3
        clear hcell hrd
        by_cases h1 : p.frm = 0
        · have h1a : (((p.frm : Nat) : Int) != 0) = false := by simp [h1]
          have h1b : (((p.frm : Nat) : Int) == 0) = true := by simp [h1]
          by_cases h2 : p.to = t.size
          · have h2a : (((p.to : Nat) : Int) != t.size) = false := by simp [h2]
            have h2b : (((p.to : Nat) : Int) == t.size) = true := by simp [h2]
            go_wp2_with fail
            rw [HP0.out]
            refine ⟨HK.out, ?_⟩
            rw [HT.out, if_pos trivial]
            rw [if_pos ⟨h1, h2⟩]
          · have h2a : (((p.to : Nat) : Int) != t.size) = true := by simpa using fun h => h2 (by omega)
            have h2b : (((p.to : Nat) : Int) == t.size) = false := by simpa using fun h => h2 (by omega)
            go_wp2_with fail
            rw [HP0.out]
            refine ⟨HK.out, ?_⟩
            rw [HT.out, if_pos trivial]
            rw [if_neg (fun h => h2 h.2)]
        · have h1a : (((p.frm : Nat) : Int) != 0) = true := by simpa using h1
          have h1b : (((p.frm : Nat) : Int) == 0) = false := by simpa using h1
          go_wp2_with fail
          rw [HP0.out]
          refine ⟨HK.out, ?_⟩
          rw [HT.out, if_pos trivial]
          rw [if_neg (fun h => h1 h.1)]
      | cons q ps =>
        have h1a : (((p :: q :: ps).length : Int) != 1) = true := by simp; omega
        have h1b : (((p :: q :: ps).length : Int) == 1) = false := by simp; omega
        obtain ⟨n, hn⟩ : ∃ n, n = (p :: q :: ps).length := ⟨_, rfl⟩
        rw [← hn] at h1a h1b ⊢
        clear hn
        go_wp2_with fail
        rw [HP0.out]
        refine ⟨HK.out, ?_⟩
        rw [HT.out, if_pos trivial]
  · have he1 : (er != 0) = true := by simpa using he
    have he2 : (er == 0) = false := by simpa using he
    go_wp2_with fail
    rw [HP0.out]
    refine ⟨HK.out, ?_⟩
    rw [HT.out, if_neg he]
    rfl

end Go.Proofs.YtogmealngeejmaaDoor
