import Derived.Test.YtogmealngeejmaaGreatDoorJoined19
import Derived.Test.YtogmealngeejmaaGreatDoorJoined20
/- spelled, Spell; the run over pieces. -/
namespace Go.Proofs.YtogmealngeejmaaGreatDoor
open Go Go.RowKit

/-- Each ' twice. -/
def Lx.dbl : Lx.Bs → Lx.Bs
  | [] => []
  | b :: l => if b = 39 then 39 :: 39 :: Lx.dbl l else b :: Lx.dbl l

theorem Lx.dbl_len (l : Lx.Bs) : (Lx.dbl l).length ≤ 2 * l.length := by
  induction l with
  | nil => simp [Lx.dbl]
  | cons b l ih => unfold Lx.dbl; split <;> simp <;> omega

theorem index_cons (b : UInt8) (l : List UInt8) : Lib.index (b :: l) [39] = if b = 39 then 0 else if Lib.index l [39] == -1 then -1 else Lib.index l [39] + 1 := by
  rw [Lib.index]
  by_cases h : b = 39
  · subst h; simp [List.isPrefixOf]
  · rw [if_neg h, if_neg (by simp [List.isPrefixOf]; exact fun e => h e.symm)]

theorem replaceK_dbl : ∀ (l : List UInt8) (k : Nat), l.count 39 ≤ k → Lib.replaceK [39] [39, 39] k l = Lx.dbl l := by
  intro l
  induction l with
  | nil => intro k _; cases k <;> simp [Lib.replaceK, Lx.dbl, Lib.index]
  | cons b l ih =>
    intro k hk
    by_cases h : b = 39
    · subst h
      rw [List.count_cons_self] at hk
      obtain ⟨k, rfl⟩ : ∃ k', k = k' + 1 := ⟨k - 1, by omega⟩
      rw [Lib.replaceK_hit _ _ _ _ 0 (by rw [index_cons, if_pos rfl]; rfl)]
      simp only [List.take_zero, List.nil_append, Nat.zero_add, List.length_cons, List.length_nil, List.drop_succ_cons, List.drop_zero]
      rw [ih k (by omega)]
      simp [Lx.dbl]
    · rw [List.count_cons_of_ne (by simpa using h)] at hk
      have hd : Lx.dbl (b :: l) = b :: Lx.dbl l := by simp [Lx.dbl, h]
      cases k with
      | zero =>
        have := ih 0 hk
        simp only [Lib.replaceK] at this ⊢
        rw [hd, ← this]
      | succ k =>
        have hi := ih (k + 1) hk
        by_cases hm : Lib.index l [39] = -1
        · rw [Lib.replaceK, if_pos (by simp [hm])] at hi
          rw [Lib.replaceK, if_pos (by rw [index_cons, if_neg h]; simp [hm]), hd, ← hi]
        · obtain ⟨i, hix⟩ : ∃ i : Nat, Lib.index l [39] = i := ⟨(Lib.index l [39]).toNat, by have := Lib.index_ge l [39]; omega⟩
          rw [Lib.replaceK_hit _ _ _ _ i hix] at hi
          rw [Lib.replaceK_hit _ _ _ _ (i + 1) (by rw [index_cons, if_neg h, if_neg (by simp [hix])]; rw [hix]; simp), hd, ← hi]
          simp

theorem replaceAll_dbl (l : List UInt8) : Lib.replaceAll l [39] [39, 39] = Lx.dbl l := by
  unfold Lib.replaceAll Lib.replace
  rw [if_neg (by decide)]
  refine replaceK_dbl l _ ?_
  unfold Lib.replaceNum
  rw [if_pos (.inl (by decide)), Lib.count_one]
  exact Nat.le_refl _

/-- How a token is spelled. -/
def Lx.spelled (x : Tok) : Lx.Bs := if x.kind = 6 then 39 :: (Lx.dbl x.text ++ [39]) else x.text

theorem replaceAll_c (l : List UInt8) (w : World) (hm : ∃ m, w.cell? ⟨0, 0, none⟩ = some (.int .i64 m)) (hl : l.length ≤ 1100000) :
    Calls Tryz.prog 58 #[.string ⟨l.toArray⟩, .string ⟨#[39]⟩, .string ⟨#[39, 39]⟩] w fun e w' => e = .returned (.string ⟨(Lx.dbl l).toArray⟩) ∧ Kp [] w w' := by
  obtain ⟨m, hm⟩ := hm
  have hz : (⟨l.toArray⟩ : ByteArray).size = l.length := by simp [ByteArray.size]
  have hc := Lib.countB_le ⟨#[39]⟩ (by decide) _ ⟨l.toArray⟩ (Nat.le_refl _)
  refine (Tryz.strings_ReplaceAll ⟨l.toArray⟩ ⟨#[39]⟩ ⟨#[39, 39]⟩ m w (by omega) hm (by decide) ?_).mono ?_
  · have : (⟨#[39, 39]⟩ : ByteArray).size = 2 := rfl
    rw [this]; omega
  · rintro e w' ⟨rfl, hb⟩
    refine ⟨?_, Kp.of_below hb (Nat.le_refl _)⟩
    rw [← replaceAll_dbl]

set_option maxRecDepth 100000 in
set_option maxHeartbeats 1000000 in
theorem spelled_c (x : Tok) (w : World) (hm : ∃ m, w.cell? ⟨0, 0, none⟩ = some (.int .i64 m)) (hsz : x.text.length ≤ 1100000) :
    Calls Tryz.prog 29 #[encTk x] w fun e w' => e = .returned (.string ⟨(Lx.spelled x).toArray⟩) ∧ Kp [] w w' := by
  obtain ⟨P0, hP0⟩ : ∃ P0 : Ending → World → Prop, P0 = fun e w' => e = .returned (.string ⟨(Lx.spelled x).toArray⟩) ∧ Kp [] w w' := ⟨_, rfl⟩
  rw [← hP0]
  have HP0 := Lib.hid hP0; clear hP0
  unfold encTk
  go_enter Tryz.func29, Tryz.ntmps29
  by_cases hk : x.kind = 6
  · have k1 : (x.kind == 6) = true := by simp [hk]
    have HK := Lib.hid hk; clear hk
    have hd := Lx.dbl_len x.text
    go_wp2_with fail
    obtain ⟨w1, hw1⟩ : ∃ w1, w1 = w.alloc (.cells #[.int .i64 x.kind, .string ⟨x.text.toArray⟩, .int .i64 x.line, .int .i64 x.col] 34) := ⟨_, rfl⟩
    have hkw : Kp [] w w1 := by rw [hw1]; exact (Kp.refl [] w).alloc _
    rw [← hw1]
    have hm1 : ∃ m, w1.cell? ⟨0, 0, none⟩ = some (.int .i64 m) := by
      obtain ⟨m, hm⟩ := hm
      exact ⟨m, (hkw.cell (p := ⟨0, 0, none⟩) (World.block_lt_of_cell? w _ hm) (by simp)).trans hm⟩
    refine (replaceAll_c x.text w1 hm1 hsz).mono ?_
    rintro e w2 ⟨rfl, hk2⟩
    have HK2 := Lib.hid (hkw.trans hk2); clear hk2
    have hdl : (⟨(Lx.dbl x.text).toArray⟩ : ByteArray).size ≤ 2200000 := by simp [ByteArray.size]; omega
    go_wp2_with fail
    rw [HP0.out]
    refine ⟨?_, HK2.out⟩
    unfold Lx.spelled
    rw [if_pos HK.out]
    have e1 := bytes_append [39] (Lx.dbl x.text)
    have e2 := bytes_append (39 :: Lx.dbl x.text) [39]
    simp only [List.cons_append, List.nil_append] at e1 e2
    show Ending.returned (.string ((⟨[39].toArray⟩ : ByteArray) ++ ⟨(Lx.dbl x.text).toArray⟩ ++ ⟨[39].toArray⟩)) = _
    rw [e1, e2]
  · have k1 : (x.kind == 6) = false := by simpa using hk
    have HK := Lib.hid hk; clear hk
    go_wp2_with fail
    rw [HP0.out]
    refine ⟨?_, (Kp.refl [] w).alloc _⟩
    unfold Lx.spelled
    rw [if_neg HK.out]
    rfl

end Go.Proofs.YtogmealngeejmaaGreatDoor
