/- LexWritten: the walk. -/
import Derived.Test.YtogmealngeejmaaDoorLexPlG
import Derived.Test.YtogmealngeejmaaDoorLexAwW
namespace Go.Proofs.YtogmealngeejmaaDoor
open Go Go.RowKit

theorem Lx.wt_ge : ∀ (l : List Tok) (n : Nat), n ≤ Lx.wt n l := by
  intro l
  induction l with
  | nil => intro n; exact Nat.le_refl _
  | cons x l ih =>
    intro n
    unfold Lx.wt
    split
    · exact Nat.le_trans (Nat.le_add_right _ _) (ih _)
    · exact Nat.le_refl _
theorem Lx.wt_each : ∀ (l : List Tok) (n : Nat), Lx.wt n l ≤ 30000 → ∀ x ∈ l, x.text.length ≤ 30000 := by
  intro l
  induction l with
  | nil => intro n _ x hx; simp at hx
  | cons y l ih =>
    intro n h x hx
    unfold Lx.wt at h
    split at h
    · rcases List.mem_cons.1 hx with rfl | hx
      · have := Lx.wt_ge l (n + x.text.length); omega
      · exact ih _ h x hx
    · omega

theorem lex_b (l : Lx.Bs) {ps : List Lx.Pc} {er : Int} {a : Nat} (hd : Lx.dv l = (ps, er, a)) (w : World) (hl : l.length ≤ 1000000) :
    Calls Tryd.prog 8 #[.string ⟨l.toArray⟩] w fun e w' => Kp [] w w' ∧ ∃ b c, e = .returned (.tuple #[.slice b ps.length c, .int .i64 er, .int .i64 a]) ∧ Rd w' (.slice b ps.length c) 4 cellsTk (ps.map tkOf) := by
  refine (lex_l l hd w hl).mono ?_
  rintro e w' ⟨hk, v, rfl, hr⟩
  obtain ⟨b, c, rfl, _⟩ := hr.view
  simp only [List.length_map] at hr ⊢
  exact ⟨hk, b, c, rfl, hr⟩

theorem lex_t (t : ByteArray) {ps : List Lx.Pc} {er : Int} {a : Nat} (hd : Lx.dv t.data.toList = (ps, er, a)) (w : World) (hl : t.size ≤ 1000000) :
    Calls Tryd.prog 8 #[.string t] w fun e w' => Kp [] w w' ∧ ∃ b c, e = .returned (.tuple #[.slice b ps.length c, .int .i64 er, .int .i64 a]) ∧ Rd w' (.slice b ps.length c) 4 cellsTk (ps.map tkOf) := by
  have h := lex_b t.data.toList hd w (by rw [size_list]; exact hl)
  have e : (⟨t.data.toList.toArray⟩ : ByteArray) = t := by cases t; simp
  rwa [e] at h

theorem Lx.dbl_ge : ∀ l : Lx.Bs, l.length ≤ (Lx.dbl l).length := by
  intro l
  induction l with
  | nil => simp
  | cons b l ih => unfold Lx.dbl; split <;> simp <;> omega
theorem Lx.dv_text {t : Lx.Bs} {p : Lx.Pc} (hp : p ∈ (Lx.dv t).1) : p.text.length ≤ t.length := by
  have h1 := (Lx.dv_spell hp).1
  have h2 := (Lx.dv_to t p hp).2
  have h3 : p.text.length ≤ (Lx.spelled (tkOf p)).length := by
    unfold Lx.spelled
    split
    · have := Lx.dbl_ge p.text; simp [tkOf]; omega
    · exact Nat.le_refl _
  omega
theorem Lx.dv_texts {t : Lx.Bs} {ps : List Lx.Pc} {er : Int} {a : Nat} (h : Lx.dv t = (ps, er, a)) : ∀ x ∈ ps.map tkOf, x.text.length ≤ t.length := by
  intro x hx
  obtain ⟨p, hp, rfl⟩ := List.mem_map.1 hx
  exact Lx.dv_text (t := t) (by rw [h]; exact hp)

theorem Lx.dv_nil : Lx.dv [] = ([], 0, 0) := by kernel_rfl


set_option maxRecDepth 100000 in
set_option maxHeartbeats 4000000 in
theorem lexWritten_c (l : List Tok) (v : Value) (s : ByteArray) (w : World) (hr : Rd w v 4 cellsTk l) (hx : ∀ x ∈ l, x.text.length ≤ 140737488355328) (hm : ∃ m, w.cell? ⟨0, 0, none⟩ = some (.int .i64 m)) :
    Calls Tryd.prog 4 #[v, .string s] w fun e w' => e = .returned (.bool true) ∧ Kp [] w w' := by
  obtain ⟨P0, hP0⟩ : ∃ P0 : Ending → World → Prop, P0 = fun e w' => e = .returned (.bool true) ∧ Kp [] w w' := ⟨_, rfl⟩
  rw [← hP0]
  have HP0 := Lib.hid hP0; clear hP0
  have HM : Hid (∀ W, Kp [] w W → ∃ m, W.cell? ⟨0, 0, none⟩ = some (.int .i64 m)) := Lib.hid (fun W hk => by
    obtain ⟨m, hm⟩ := hm
    exact ⟨m, (hk.cell (p := ⟨0, 0, none⟩) (World.block_lt_of_cell? w _ hm) (by simp)).trans hm⟩)
  have HAW := Lib.hid (awake_c w hm)
  clear hm
  obtain ⟨b, cap, rfl, _⟩ := hr.view
  have HR := Lib.hid hr; clear hr
  have HX := Lib.hid hx; clear hx
  go_enter Tryd.func4, Tryd.ntmps4
  by_cases h5 : 500 < l.length
  · have b5 : decide ((500 : Int) < l.length) = true := decide_eq_true (by omega)
    go_wp2_with fail
    refine HAW.out.mono ?_
    rintro e w1 ⟨rfl, hk1⟩
    have HK1 := Lib.hid hk1; clear hk1
    go_wp2_with fail
    rw [HP0.out]
    exact ⟨rfl, HK1.out⟩
  · have b5 : decide ((500 : Int) < l.length) = false := decide_eq_false (by omega)
    go_wp2_with fail
    refine HAW.out.mono ?_
    rintro e w1 ⟨rfl, hk1⟩
    have HK1 := Lib.hid hk1; clear hk1
    have hwt := weight_c l _ w1 (HR.out.keep HK1.out) (by omega) (fun x hx => by have := HX.out x hx; omega)
    have hwe := Lx.wt_each l 0
    obtain ⟨wt, hwq⟩ : ∃ wt, Lx.wt 0 l = wt := ⟨_, rfl⟩
    rw [hwq] at hwt hwe
    clear hwq
    have HWT := Lib.hid hwt; clear hwt
    have HWE := Lib.hid hwe; clear hwe
    go_wp2_with fail
    refine HWT.out.mono ?_
    rintro e w2 ⟨rfl, rfl⟩
    by_cases h6 : 30000 < wt
    · have b6 : decide ((30000 : Int) < wt) = true := decide_eq_true (by omega)
      go_wp2_with fail
      rw [HP0.out]
      exact ⟨rfl, HK1.out⟩
    · have b6 : decide ((30000 : Int) < wt) = false := decide_eq_false (by omega)
      have HXS := Lib.hid (HWE.out (by omega))
      go_wp2_with fail
      refine (brief_c s _).mono ?_
      rintro e w3 ⟨rfl, rfl⟩
      have hz : (decide (s.size ≤ 3000) || (decide (20000 < s.size) && decide (s.size ≤ 40000))) = true → s.size ≤ 40000 := by
        intro h
        simp only [Bool.or_eq_true, Bool.and_eq_true, decide_eq_true_eq] at h
        omega
      obtain ⟨bf, hbf⟩ : ∃ bf, (decide (s.size ≤ 3000) || (decide (20000 < s.size) && decide (s.size ≤ 40000))) = bf := ⟨_, rfl⟩
      rw [hbf] at hz ⊢
      clear hbf
      cases bf
      · clear hz
        go_wp2_with fail
        rw [HP0.out]
        exact ⟨rfl, HK1.out⟩
      · have hsz := hz rfl
        clear hz
        have hpc := print_c l _ w3 (HR.out.keep HK1.out) (fun x hx => by have := HXS.out x hx; omega) (HM.out _ HK1.out)
        obtain ⟨⟨t, pe⟩, hp⟩ : ∃ R, Lx.print l = R := ⟨_, rfl⟩
        rw [hp] at hpc
        simp only at hpc
        have HPR := Lib.hid hp; clear hp
        have HPC := Lib.hid hpc; clear hpc
        go_wp2_with fail
        refine HPC.out.mono ?_
        rintro e w4 ⟨rfl, hk4⟩
        have HR4 := Lib.hid ((HR.out.keep HK1.out).keep hk4)
        have HK4 := Lib.hid (HK1.out.trans hk4); clear hk4
        obtain ⟨⟨ss, se, sa⟩, hds⟩ : ∃ q, Lx.dv s.data.toList = q := ⟨_, rfl⟩
        have HDS := Lib.hid hds; clear hds
        by_cases hpe : pe = 0
        · subst hpe
          obtain ⟨qs, hdt, hal⟩ := Lx.print_read HPR.out
          have hpl := Lx.print_len HPR.out
          have HDT := Lib.hid hdt; clear hdt
          have HAL := Lib.hid hal; clear hal
          have hql := Lx.dv_len t
          rw [HDT.out] at hql
          simp only at hql
          go_wp2_with fail
          refine (lex_b t HDT.out w4 (by omega)).mono ?_
          rintro e w5 ⟨hk5, b5', c5, rfl, hr5⟩
          have HR5 := Lib.hid hr5; clear hr5
          have HRL := Lib.hid (HR4.out.keep hk5)
          have HK5 := Lib.hid (HK4.out.trans hk5); clear hk5
          have hsc := same_c l (qs.map tkOf) _ _ w5 HRL.out HR5.out (by omega) (by rw [List.length_map]; omega)
          rw [HAL.out] at hsc
          have HSC := Lib.hid hsc; clear hsc
          go_wp2_with fail
          refine HSC.out.mono ?_
          rintro e w6 ⟨rfl, hk6⟩
          have HK6 := Lib.hid (HK5.out.trans hk6); clear hk6
          go_wp2_with fail
          refine (lex_t s HDS.out w6 (by omega)).mono ?_
          rintro e x1 ⟨hx1, b1, c1, rfl, hrx⟩
          have HRX := Lib.hid hrx; clear hrx
          have HX1 := Lib.hid ((HK6).out.trans hx1); clear hx1
          by_cases hse : se = 0
          · subst hse
            obtain ⟨hck, hag⟩ := Lx.print_again HDS.out
            have htx := Lx.dv_texts HDS.out
            rw [size_list] at htx
            have HTX : Hid (∀ x ∈ ss.map tkOf, x.text.length ≤ 1000000) := Lib.hid (fun x hx => by have := htx x hx; omega)
            clear htx
            have hpc := print_c (ss.map tkOf) _ x1 HRX.out HTX.out (HM.out _ HX1.out)
            have hcc := fun W hk => check_c (ss.map tkOf) _ W (HRX.out.keep (W' := W) hk) HTX.out
            rw [hck] at hcc
            have HCC := Lib.hid hcc; clear hcc hck
            rcases hag with hag | ⟨t2, qs2, hag, hd2, hal2⟩
            · rw [hag] at hpc
              simp only at hpc
              have HPC2 := Lib.hid hpc; clear hpc hag
              go_wp2_with fail
              refine HPC2.out.mono ?_
              rintro e x2 ⟨rfl, hx2⟩
              have HX2 := Lib.hid (HX1.out.trans hx2)
              have HX12 := Lib.hid hx2; clear hx2
              go_wp2_with fail
              refine (lex_b [] Lx.dv_nil x2 (by decide)).mono ?_
              rintro e x3 ⟨hx3, b3, c3, rfl, hr3⟩
              have HX3 := Lib.hid (HX2.out.trans hx3)
              have HX13 := Lib.hid (HX12.out.trans hx3); clear hx3 hr3
              go_wp2_with fail
              refine (HCC.out _ HX13.out).mono ?_
              rintro e x4 ⟨rfl, hx4⟩
              have HX4 := Lib.hid (HX3.out.trans hx4); clear hx4
              go_wp2_with fail
              rw [HP0.out]
              exact ⟨rfl, HX4.out⟩
            · have hpl := (Lx.print_len hag)
              rw [hag] at hpc
              simp only at hpc
              have HPC2 := Lib.hid hpc; clear hpc hag
              have HD2 := Lib.hid hd2; clear hd2
              have hql := Lx.dv_len t2
              rw [HD2.out] at hql
              simp only at hql
              have hsl := Lx.dv_len s.data.toList
              rw [HDS.out] at hsl
              simp only at hsl
              have HAL2 := Lib.hid hal2; clear hal2
              go_wp2_with fail
              refine HPC2.out.mono ?_
              rintro e x2 ⟨rfl, hx2⟩
              have HX2 := Lib.hid (HX1.out.trans hx2)
              have HX12 := Lib.hid hx2; clear hx2
              go_wp2_with fail
              refine (lex_b t2 HD2.out x2 (by omega)).mono ?_
              rintro e x3 ⟨hx3, b3, c3, rfl, hr3⟩
              have HR3 := Lib.hid hr3; clear hr3
              have HX3 := Lib.hid (HX2.out.trans hx3)
              have HX13 := Lib.hid (HX12.out.trans hx3); clear hx3
              go_wp2_with fail
              refine (HCC.out _ HX13.out).mono ?_
              rintro e x4 ⟨rfl, hx4⟩
              have HX14 := Lib.hid (HX13.out.trans hx4)
              have HR4 := Lib.hid (HR3.out.keep hx4)
              have HX4 := Lib.hid (HX3.out.trans hx4); clear hx4
              have hsc := same_c (ss.map tkOf) (qs2.map tkOf) _ _ x4 (HRX.out.keep HX14.out) HR4.out (by rw [List.length_map]; omega) (by rw [List.length_map]; omega)
              rw [HAL2.out] at hsc
              have HSC := Lib.hid hsc; clear hsc
              go_wp2_with fail
              refine HSC.out.mono ?_
              rintro e x5 ⟨rfl, hx5⟩
              have HX5 := Lib.hid (HX4.out.trans hx5); clear hx5
              go_wp2_with fail
              rw [HP0.out]
              exact ⟨rfl, HX5.out⟩
          · have q1 : (se != 0) = true := by simpa using hse
            have q2 : (se == 0) = false := by simpa using hse
            clear hse
            go_wp2_with fail
            rw [HP0.out]
            exact ⟨rfl, HX1.out⟩
        · have q1 : (pe != 0) = true := by simpa using hpe
          have q2 : (pe == 0) = false := by simpa using hpe
          clear hpe
          go_wp2_with fail
          refine (lex_t s HDS.out w4 (by omega)).mono ?_
          rintro e x1 ⟨hx1, b1, c1, rfl, hrx⟩
          have HRX := Lib.hid hrx; clear hrx
          have HX1 := Lib.hid ((HK4).out.trans hx1); clear hx1
          by_cases hse : se = 0
          · subst hse
            obtain ⟨hck, hag⟩ := Lx.print_again HDS.out
            have htx := Lx.dv_texts HDS.out
            rw [size_list] at htx
            have HTX : Hid (∀ x ∈ ss.map tkOf, x.text.length ≤ 1000000) := Lib.hid (fun x hx => by have := htx x hx; omega)
            clear htx
            have hpc := print_c (ss.map tkOf) _ x1 HRX.out HTX.out (HM.out _ HX1.out)
            have hcc := fun W hk => check_c (ss.map tkOf) _ W (HRX.out.keep (W' := W) hk) HTX.out
            rw [hck] at hcc
            have HCC := Lib.hid hcc; clear hcc hck
            rcases hag with hag | ⟨t2, qs2, hag, hd2, hal2⟩
            · rw [hag] at hpc
              simp only at hpc
              have HPC2 := Lib.hid hpc; clear hpc hag
              go_wp2_with fail
              refine HPC2.out.mono ?_
              rintro e x2 ⟨rfl, hx2⟩
              have HX2 := Lib.hid (HX1.out.trans hx2)
              have HX12 := Lib.hid hx2; clear hx2
              go_wp2_with fail
              refine (lex_b [] Lx.dv_nil x2 (by decide)).mono ?_
              rintro e x3 ⟨hx3, b3, c3, rfl, hr3⟩
              have HX3 := Lib.hid (HX2.out.trans hx3)
              have HX13 := Lib.hid (HX12.out.trans hx3); clear hx3 hr3
              go_wp2_with fail
              refine (HCC.out _ HX13.out).mono ?_
              rintro e x4 ⟨rfl, hx4⟩
              have HX4 := Lib.hid (HX3.out.trans hx4); clear hx4
              go_wp2_with fail
              rw [HP0.out]
              exact ⟨rfl, HX4.out⟩
            · have hpl := (Lx.print_len hag)
              rw [hag] at hpc
              simp only at hpc
              have HPC2 := Lib.hid hpc; clear hpc hag
              have HD2 := Lib.hid hd2; clear hd2
              have hql := Lx.dv_len t2
              rw [HD2.out] at hql
              simp only at hql
              have hsl := Lx.dv_len s.data.toList
              rw [HDS.out] at hsl
              simp only at hsl
              have HAL2 := Lib.hid hal2; clear hal2
              go_wp2_with fail
              refine HPC2.out.mono ?_
              rintro e x2 ⟨rfl, hx2⟩
              have HX2 := Lib.hid (HX1.out.trans hx2)
              have HX12 := Lib.hid hx2; clear hx2
              go_wp2_with fail
              refine (lex_b t2 HD2.out x2 (by omega)).mono ?_
              rintro e x3 ⟨hx3, b3, c3, rfl, hr3⟩
              have HR3 := Lib.hid hr3; clear hr3
              have HX3 := Lib.hid (HX2.out.trans hx3)
              have HX13 := Lib.hid (HX12.out.trans hx3); clear hx3
              go_wp2_with fail
              refine (HCC.out _ HX13.out).mono ?_
              rintro e x4 ⟨rfl, hx4⟩
              have HX14 := Lib.hid (HX13.out.trans hx4)
              have HR4 := Lib.hid (HR3.out.keep hx4)
              have HX4 := Lib.hid (HX3.out.trans hx4); clear hx4
              have hsc := same_c (ss.map tkOf) (qs2.map tkOf) _ _ x4 (HRX.out.keep HX14.out) HR4.out (by rw [List.length_map]; omega) (by rw [List.length_map]; omega)
              rw [HAL2.out] at hsc
              have HSC := Lib.hid hsc; clear hsc
              go_wp2_with fail
              refine HSC.out.mono ?_
              rintro e x5 ⟨rfl, hx5⟩
              have HX5 := Lib.hid (HX4.out.trans hx5); clear hx5
              go_wp2_with fail
              rw [HP0.out]
              exact ⟨rfl, HX5.out⟩
          · have q1 : (se != 0) = true := by simpa using hse
            have q2 : (se == 0) = false := by simpa using hse
            clear hse
            go_wp2_with fail
            rw [HP0.out]
            exact ⟨rfl, HX1.out⟩

end Go.Proofs.YtogmealngeejmaaDoor
