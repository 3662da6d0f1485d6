import Derived.Test.YtogmealngeejmaaGreatDoorJoined28
import Derived.Test.YtogmealngeejmaaGreatDoorJoined30
/- LexDivides: the walk. -/
namespace Go.Proofs.YtogmealngeejmaaGreatDoor
open Go Go.RowKit

theorem eqBy_self {α : Type} {p : α → α → Bool} (hp : ∀ x, p x x = true) (a : List α) : eqBy p a a = true :=
  eqBy_yes rfl fun j x y _ hx hy => by rw [hx] at hy; cases hy; exact hp x

set_option maxRecDepth 100000 in
set_option maxHeartbeats 4000000 in
theorem lexDivides_c (s : ByteArray) (ix : Int) (w : World) (hm : ∃ m, w.cell? ⟨0, 0, none⟩ = some (.int .i64 m)) : Calls Tryz.prog 4 #[.string s, .int .i64 ix] w fun e w' => e = .returned (.bool true) ∧ Kp [] w w' := by
  obtain ⟨P0, hP0⟩ : ∃ P0 : Ending → World → Prop, P0 = fun e w' => e = .returned (.bool true) ∧ Kp [] w w' := ⟨_, rfl⟩
  rw [← hP0]
  have HP0 := Lib.hid hP0; clear hP0
  have HAW := Lib.hid (awake_c w hm)
  clear hm
  have hbr := fun W => brief_c s W
  obtain ⟨B, hB⟩ : ∃ B, (decide (s.size ≤ 3000) || (decide (20000 < s.size) && decide (s.size ≤ 40000))) = B := ⟨_, rfl⟩
  rw [hB] at hbr
  have HBR := Lib.hid hbr; clear hbr
  go_enter Tryz.func4, Tryz.ntmps4
  go_wp2_with fail
  refine HAW.out.mono ?_
  rintro e w1 ⟨rfl, hk1⟩
  have HK1 := Lib.hid hk1; clear hk1
  go_wp2_with fail
  refine (HBR.out w1).mono ?_
  rintro e w1' ⟨rfl, rfl⟩
  cases B with
  | false =>
    clear hB
    go_wp2_with fail
    rw [HP0.out]
    exact ⟨rfl, HK1.out⟩
  | true =>
    have hsz : s.size ≤ 1100000 := by
      simp only [Bool.or_eq_true, Bool.and_eq_true, decide_eq_true_eq] at hB
      omega
    clear hB
    have hdl := Lx.dv_len s.data.toList
    have h1 := fun W => lex_c s W hsz
    have h2 := fun W => rLex_c s W hsz
    have h3 := fun W => ends_c s W hsz
    have h4 := fun W => rEnds_c s W hsz
    have h5 := fun W => token_c s ix W hsz
    have h6 := fun W => rToken_c s ix W hsz
    have h7 := fun W => at_c s ix W hsz
    have h8 := fun W => rAt_c s ix W hsz
    obtain ⟨⟨l, er, ea⟩, hdq⟩ : ∃ q, Lx.dv s.data.toList = q := ⟨_, rfl⟩
    obtain ⟨⟨t1, t2, t3⟩, htq⟩ : ∃ q, Lx.tokenAt s.data.toList ix = q := ⟨_, rfl⟩
    obtain ⟨⟨a1, a2, a3⟩, haq⟩ : ∃ q, Lx.at s.data.toList ix = q := ⟨_, rfl⟩
    simp only [hdq] at h1 h2 h3 h4 hdl
    simp only [htq] at h5 h6
    simp only [haq] at h7 h8
    have H1 := Lib.hid h1
    have H2 := Lib.hid h2
    have H3 := Lib.hid h3
    have H4 := Lib.hid h4
    have H5 := Lib.hid h5
    have H6 := Lib.hid h6
    have H7 := Lib.hid h7
    have H8 := Lib.hid h8
    clear h1 h2 h3 h4 h5 h6 h7 h8 hdq htq haq
    go_wp2_with fail
    refine (H1.out w1').mono ?_
    rintro e w2 ⟨hk2, va, rfl, hra⟩
    have hva : Rd w2 va 4 cellsTk (l.map tkOf) := Rd.of_own cellsTk_length (by simpa using hra)
    clear hra
    have HK2 := Lib.hid (HK1.out.trans hk2); clear hk2
    have HVA := Lib.hid hva; clear hva
    go_wp2_with fail
    refine (H2.out w2).mono ?_
    rintro e w3 ⟨hk3, vb, rfl, hrb⟩
    have hvb : Rd w3 vb 4 cellsTk (l.map tkOf) := Rd.of_own cellsTk_length (by simpa using hrb)
    clear hrb
    have HK3 := Lib.hid (HK2.out.trans hk3)
    have HVA3 := Lib.hid (HVA.out.keep hk3); clear hk3
    have HVB := Lib.hid hvb; clear hvb
    go_wp2_with fail
    refine (H3.out w3).mono ?_
    rintro e w4 ⟨hk4, vc, rfl, hrc⟩
    have hvc : Rd w4 vc 1 cellsI (l.map (·.to)) := Rd.of_own (fun _ => rfl) (by simpa using hrc)
    clear hrc
    have HK4 := Lib.hid (HK3.out.trans hk4)
    have HVA4 := Lib.hid (HVA3.out.keep hk4)
    have HVB4 := Lib.hid (HVB.out.keep hk4); clear hk4
    have HVC := Lib.hid hvc; clear hvc
    go_wp2_with fail
    refine (H4.out w4).mono ?_
    rintro e w5 ⟨hk5, vd, rfl, hrd⟩
    have hvd : Rd w5 vd 1 cellsI (l.map (·.to)) := Rd.of_own (fun _ => rfl) (by simpa using hrd)
    clear hrd
    have HK5 := Lib.hid (HK4.out.trans hk5)
    have HVA5 := Lib.hid (HVA4.out.keep hk5)
    have HVB5 := Lib.hid (HVB4.out.keep hk5)
    have HVC5 := Lib.hid (HVC.out.keep hk5); clear hk5
    have HVD := Lib.hid hvd; clear hvd
    have hpl := placed_c (l.map tkOf) (l.map tkOf) va vb w5 HVA5.out HVB5.out (by simp; omega) (by simp; omega)
    rw [show (eqBy Tok.alike (l.map tkOf) (l.map tkOf) && eqBy Tok.atOne (l.map tkOf) (l.map tkOf)) = true by rw [eqBy_self (fun x => by simp [Tok.alike]), eqBy_self (fun x => by simp [Tok.atOne])]; rfl] at hpl
    have HPL := Lib.hid hpl; clear hpl
    go_wp2_with fail
    refine HPL.out.mono ?_
    rintro e w6 ⟨rfl, hk6⟩
    have HK6 := Lib.hid (HK5.out.trans hk6)
    have hsi := sameInts_c (l.map (·.to)) (l.map (·.to)) vc vd w6 (HVC5.out.keep hk6) (HVD.out.keep hk6) (by simp; omega) (by simp; omega)
    rw [eqBy_self (fun x => by simp)] at hsi
    clear hk6
    have HSI := Lib.hid hsi; clear hsi
    go_wp2_with fail
    refine HSI.out.mono ?_
    rintro e w7 ⟨rfl, hk7⟩
    have HK7 := Lib.hid (HK6.out.trans hk7); clear hk7
    go_wp2_with fail
    refine (H5.out w7).mono ?_
    rintro e w8 ⟨hk8, rfl⟩
    have HK8 := Lib.hid (HK7.out.trans hk8); clear hk8
    go_wp2_with fail
    refine (H6.out w8).mono ?_
    rintro e w9 ⟨hk9, rfl⟩
    have HK9 := Lib.hid (HK8.out.trans hk9); clear hk9
    go_wp2_with fail
    refine (H7.out w9).mono ?_
    rintro e w10 ⟨hk10, rfl⟩
    have HK10 := Lib.hid (HK9.out.trans hk10); clear hk10
    go_wp2_with fail
    refine (H8.out w10).mono ?_
    rintro e w11 ⟨hk11, rfl⟩
    have HK11 := Lib.hid (HK10.out.trans hk11); clear hk11
    go_wp2_with fail
    rw [HP0.out]
    exact ⟨rfl, HK11.out⟩

end Go.Proofs.YtogmealngeejmaaGreatDoor
