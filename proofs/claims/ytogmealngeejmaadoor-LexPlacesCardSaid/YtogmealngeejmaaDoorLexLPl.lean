/- LexPlaces: the walk. -/
import Derived.Test.YtogmealngeejmaaDoorLexPlE
import Derived.Test.YtogmealngeejmaaDoorLexAwW
namespace Go.Proofs.YtogmealngeejmaaDoor
open Go Go.RowKit

set_option maxRecDepth 100000 in
set_option maxHeartbeats 4000000 in
theorem lexPlaces_c (t : ByteArray) (ix : Int) (w : World) (hm : ∃ m, w.cell? ⟨0, 0, none⟩ = some (.int .i64 m)) : Calls Tryd.prog 5 #[.string t, .int .i64 ix] w fun e w' => e = .returned (.bool true) ∧ Kp [] w w' := by
  obtain ⟨P0, hP0⟩ : ∃ P0 : Ending → World → Prop, P0 = fun e w' => e = .returned (.bool true) ∧ Kp [] w w' := ⟨_, rfl⟩
  rw [← hP0]
  have HP0 := Lib.hid hP0; clear hP0
  have HM : Hid (∀ W, Kp [] w W → ∃ m, W.cell? ⟨0, 0, none⟩ = some (.int .i64 m)) := Lib.hid (fun W hk => by
    obtain ⟨m, hm⟩ := hm
    exact ⟨m, (hk.cell (p := ⟨0, 0, none⟩) (World.block_lt_of_cell? w _ hm) (by simp)).trans hm⟩)
  have HAW := Lib.hid (awake_c w hm)
  clear hm
  go_enter Tryd.func5, Tryd.ntmps5
  by_cases h3 : 3000 < t.size
  · have b3 : decide ((3000 : Int) < t.size) = true := decide_eq_true (by omega)
    go_wp2_with fail
    refine HAW.out.mono ?_
    rintro e w1 ⟨rfl, hk1⟩
    have HK1 := Lib.hid hk1; clear hk1
    go_wp2_with fail
    rw [HP0.out]
    exact ⟨rfl, HK1.out⟩
  · have b3 : decide ((3000 : Int) < t.size) = false := decide_eq_false (by omega)
    go_wp2_with fail
    refine HAW.out.mono ?_
    rintro e w1 ⟨rfl, hk1⟩
    have HK1 := Lib.hid hk1; clear hk1
    go_wp2_with fail
    refine (lex_c t w1 (by omega)).mono ?_
    rintro e w2 ⟨hk2, v2, rfl, hr2⟩
    have HR2 := Lib.hid (Rd.of_own cellsTk_length (by simpa using hr2) : Rd w2 v2 4 cellsTk ((Lx.dv t.data.toList).1.map tkOf)); clear hr2
    have HK2 := Lib.hid (HK1.out.trans hk2); clear hk2
    have hea := ends_c t w2 (by omega)
    have hnx := @Lx.dv_next t.data.toList
    have hrt := @Lx.dv_right t.data.toList
    have hpl := Lx.dv_place t.data.toList
    have hft := Lx.dv_from t.data.toList
    have htt := Lx.dv_to t.data.toList
    have hll := Lx.dv_len t.data.toList
    have htk := Lx.tokenAt t.data.toList ix
    obtain ⟨⟨ps, er, a⟩, hr⟩ : ∃ r, r = Lx.dv t.data.toList := ⟨_, rfl⟩
    rw [← hr] at hea hnx hrt hpl hft htt hll HR2 ⊢
    have HDV := Lib.hid hr; clear hr
    simp only at hea hnx hrt hpl hft htt hll HR2 ⊢
    have HNX := Lib.hid (show ∀ (i : Nat) (x y : Lx.Pc), ps[i]? = some x → ps[i + 1]? = some y → x.to < y.to ∧ x.to ≤ y.frm ∧ Lx.ahead (x.line, x.col) (y.line, y.col) from fun i x y h1 h2 => hnx h1 h2)
    have HRT := Lib.hid (show ∀ p : Lx.Pc, p ∈ ps → Lx.right (tkOf p) = true from fun p hp => hrt hp)
    have HPL := Lib.hid hpl
    have HFT := Lib.hid hft
    have HTT := Lib.hid htt
    clear hnx hrt hpl hft htt htk
    go_wp2_with fail
    refine hea.mono ?_
    rintro e w3 ⟨hk3, v3, rfl, hr3⟩
    clear hea
    have HR3 := Lib.hid (Rd.of_own (fun _ => rfl) (by simpa using hr3) : Rd w3 v3 1 cellsI (ps.map (·.to))); clear hr3
    have HR2' := Lib.hid (HR2.out.keep hk3)
    have HK3 := Lib.hid (HK2.out.trans hk3); clear hk3
    by_cases he : er = 0
    · subst he
      obtain ⟨bT, cT, rfl, hcT⟩ := HR2'.out.view
      obtain ⟨bE, cE, rfl, hcE⟩ := HR3.out.view
      have HCT := Lib.hid hcT; clear hcT
      have HCE := Lib.hid hcE; clear hcE
      simp only [List.length_map]
      go_wp2_with fail
      go_loopg [12] ps.length (fun n y wr => ∃ k : Nat, n = ps.length - k ∧ y = .int .i64 ((k : Int) + 1) ∧ k ≤ ps.length ∧ ∃ m, wr = w3.drewN m)
      case atStart => exact ⟨0, rfl, rfl, Nat.zero_le _, 0, rfl⟩
      case round =>
        obtain ⟨k, rfl, rfl, hk, m, hwr⟩ := hrel
        have HWR := Lib.hid hwr; clear hwr
        by_cases hkl : k + 1 < ps.length
        · have b1 : decide ((k : Int) + 1 < ps.length) = true := decide_eq_true (by omega)
          obtain ⟨x, hx⟩ : ∃ x, ps[k]? = some x := ⟨ps[k], by simp⟩
          obtain ⟨y, hy⟩ : ∃ y, ps[k + 1]? = some y := ⟨ps[k + 1], by simp⟩
          obtain ⟨gE, oE, rfl, hgE, hxE⟩ := HCE.out k x.to (by simp [hx])
          obtain ⟨gT, oT, rfl, hgT, hxT⟩ := HCT.out k (tkOf x) (by simp [hx])
          obtain ⟨gE', oE', e1, _, hyE⟩ := HCE.out (k + 1) y.to (by simp [hy])
          obtain ⟨rfl, rfl⟩ : gE = gE' ∧ oE = oE' := by simpa using e1
          obtain ⟨gT', oT', e2, _, hyT⟩ := HCT.out (k + 1) (tkOf y) (by simp [hy])
          obtain ⟨rfl, rfl⟩ : gT = gT' ∧ oT = oT' := by simpa using e2
          have n1 := HNX.out k x y hx hy
          have c0 : wr.cell? ⟨gE, oE + k, none⟩ = some (.int .i64 x.to) := by have := hxE 0 _ rfl; rw [HWR.out]; simpa using this
          have c1 : wr.cell? ⟨gE, oE + (k + 1), none⟩ = some (.int .i64 y.to) := by have := hyE 0 _ rfl; rw [HWR.out]; simpa using this
          have d2 : wr.cell? ⟨gT, oT + k * 4 + 2, none⟩ = some (.int .i64 x.line) := by rw [HWR.out]; exact hxT 2 _ rfl
          have d3 : wr.cell? ⟨gT, oT + k * 4 + 3, none⟩ = some (.int .i64 x.col) := by rw [HWR.out]; exact hxT 3 _ rfl
          have e2 : wr.cell? ⟨gT, oT + (k + 1) * 4 + 2, none⟩ = some (.int .i64 y.line) := by rw [HWR.out]; exact hyT 2 _ rfl
          have e3 : wr.cell? ⟨gT, oT + (k + 1) * 4 + 3, none⟩ = some (.int .i64 y.col) := by rw [HWR.out]; exact hyT 3 _ rfl
          clear hxE hyE hxT hyT
          have q1 : decide ((y.to : Int) ≤ x.to) = false := decide_eq_false (by omega)
          have q1n : decide (y.to ≤ x.to) = false := decide_eq_false (by omega)
          have q1m : ¬ (y.to ≤ x.to) := by omega
          have q2 : decide (y.line < x.line) = false := decide_eq_false (by have := n1.2.2; unfold Lx.ahead at this; simp at this; omega)
          have N1 := Lib.hid n1; clear n1
          have kl' : (k : Int) < (ps.length : Int) := by omega
          have kl2 : (k : Int) + 1 < (ps.length : Int) := by omega
          have z1 : (0 : Int) ≤ (k : Int) + 1 := by omega
          have z2 : (0 : Int) ≤ (k : Int) := by omega
          have z3 : ((k : Int) + 1).toNat = k + 1 := by omega
          have z4 : ¬ ((k : Int) + 1 < 0) := by omega
          have z6 : IntKind.i64.wrap (k : Int) = (k : Int) := Go.IntWalk.i64_in _ (by omega)
          have z9 : (k : Int) + 1 - 1 = (k : Int) := by omega
          have z7 : ¬ ((k : Int) < 0) := by omega
          have z8 : ¬ ((ps.length : Int) ≤ (k : Int)) := by omega
          have z5 : ¬ ((ps.length : Int) ≤ (k : Int) + 1) := by omega
          by_cases hq : y.line = x.line
          · have q3 : (y.line == x.line) = true := by simp [hq]
            have q4 : decide (y.col ≤ x.col) = false := decide_eq_false (by have := N1.out.2.2; unfold Lx.ahead at this; simp at this; omega)
            have HQ := Lib.hid hq; clear hq
            go_wp2_with fail
            go_quiet (fail)
            go_wp2_with fail
            go_roundg (ps.length - (k + 1))
            case measure => omega
            case rel => exact ⟨k + 1, rfl, by simp, by omega, _, by rw [HWR.out, World.drewN_drewN]⟩
          · have q3 : (y.line == x.line) = false := by simpa using hq
            have HQ := Lib.hid hq; clear hq
            go_wp2_with fail
            go_quiet (fail)
            go_wp2_with fail
            go_roundg (ps.length - (k + 1))
            case measure => omega
            case rel => exact ⟨k + 1, rfl, by simp, by omega, _, by rw [HWR.out, World.drewN_drewN]⟩
        · have b1 : decide ((k : Int) + 1 < ps.length) = false := decide_eq_false (by omega)
          have hT : Lx.tokenAt t.data.toList ix = (if ix < 0 ∨ (t.size : Int) ≤ ix then (0, 1, 0)
              else if idxOf (fun p : Lx.Pc => decide (ix < p.to)) ps < 0 then (0, 3, 0)
              else (idxOf (fun p : Lx.Pc => decide (ix < p.to)) ps, 0, 0)) := by
            unfold Lx.tokenAt
            rw [← HDV.out, size_list]
            simp
          have htc := token_c t ix wr (by omega)
          have HKR : Hid (Kp [] w wr) := Lib.hid (by rw [HWR.out]; exact HK3.out.drewN _)
          by_cases hix : ix < 0 ∨ (t.size : Int) ≤ ix
          · rw [if_pos hix] at hT
            rw [hT] at htc
            clear hT
            go_wp2_with fail
            refine htc.mono ?_
            rintro e w4 ⟨hk4, rfl⟩
            have HK4 := Lib.hid (HKR.out.trans hk4); clear hk4 htc
            by_cases i0 : ix < 0
            · have i1 : decide (ix < 0) = true := decide_eq_true i0
              clear i0 hix
              go_wp2_with fail
              rw [HP0.out]
              exact ⟨rfl, HK4.out⟩
            · have i1 : decide (ix < 0) = false := decide_eq_false i0
              have i2 : decide ((t.size : Int) ≤ ix) = true := decide_eq_true (by omega)
              clear i0 hix
              go_wp2_with fail
              rw [HP0.out]
              exact ⟨rfl, HK4.out⟩
          · rw [if_neg hix] at hT
            by_cases hid : idxOf (fun p : Lx.Pc => decide (ix < p.to)) ps < 0
            · rw [if_pos hid] at hT
              rw [hT] at htc
              clear hT
              have hany : ps.any (fun p : Lx.Pc => decide (ix < p.to)) = false := by rw [← idxOf_any]; exact decide_eq_false (by omega)
              have HANY := Lib.hid hany; clear hany hid
              have i1 : decide (ix < 0) = false := decide_eq_false (by omega)
              have i2 : decide ((t.size : Int) ≤ ix) = false := decide_eq_false (by omega)
              clear hix
              go_wp2_with fail
              refine htc.mono ?_
              rintro e w4 ⟨hk4, rfl⟩
              have HK4 := Lib.hid (HKR.out.trans hk4)
              have hk34 : Kp [] w3 w4 := (by rw [HWR.out] at hk4; exact ((Kp.refl [] w3).drewN m).trans hk4)
              clear htc hk4
              by_cases hn : ps.length = 0
              · have e0 : ((ps.length : Int) == 0) = true := by simp [hn]
                have HN := Lib.hid hn; clear hn hk34
                go_wp2_with fail
                rw [HP0.out]
                exact ⟨rfl, HK4.out⟩
              · have e0 : ((ps.length : Int) == 0) = false := by simpa using hn
                obtain ⟨n, hn1⟩ : ∃ n, ps.length = n + 1 := ⟨ps.length - 1, by omega⟩
                have hlt : n < ps.length := by omega
                obtain ⟨z, hz⟩ : ∃ z, ps[n]? = some z := ⟨ps[n], by simp [hlt]⟩
                obtain ⟨gE, oE, rfl, hgE, hzE⟩ := HCE.out n z.to (by simp [hz])
                have c0 : w4.cell? ⟨gE, oE + n, none⟩ = some (.int .i64 z.to) := by have := (hk34.cell (p := ⟨gE, _, none⟩) hgE (by simp)).trans (hzE 0 _ rfl); simpa using this
                have hzt : (z.to : Int) ≤ ix := by
                  have := HANY.out
                  rw [List.any_eq_false] at this
                  have := this z (List.mem_of_getElem? hz)
                  simpa using this
                have z1 : decide ((z.to : Int) ≤ ix) = true := decide_eq_true hzt
                have hL : (ps.length : Int) - 1 = (n : Int) := by omega
                have z2 : IntKind.i64.wrap ((ps.length : Int) - 1) = (n : Int) := by rw [hL]; exact Go.IntWalk.i64_in _ (by omega)
                have z3 : (0 : Int) ≤ (n : Int) := by omega
                have z4 : (n : Int) < (ps.length : Int) := by omega
                have HN1 := Lib.hid hn1; clear hn1 hn hzt hz hzE hk34
                go_wp2_with fail
                rw [HP0.out]
                exact ⟨rfl, HK4.out⟩
            · rw [if_neg hid] at hT
              rw [hT] at htc
              clear hT
              obtain ⟨k, x, hik, hx, hpx, hbe⟩ := idxOf_get hid
              rw [hik] at htc
              clear hik hid
              have hxm : x ∈ (Lx.dv t.data.toList).1 := by rw [← HDV.out]; exact List.mem_of_getElem? hx
              obtain ⟨hsl, hat⟩ := Lx.dv_spell hxm
              have hrx := HRT.out x (List.mem_of_getElem? hx)
              have hkl : k < ps.length := (List.getElem?_eq_some_iff.1 hx).1
              have htx := (HTT.out x (List.mem_of_getElem? hx)).2
              rw [size_list] at htx
              have i1 : decide (ix < 0) = false := decide_eq_false (by omega)
              have i2 : decide ((t.size : Int) ≤ ix) = false := decide_eq_false (by omega)
              have hixx : ix < (x.to : Int) := by simpa using hpx
              clear hix hpx
              go_wp2_with fail
              refine htc.mono ?_
              rintro e w4 ⟨hk4, rfl⟩
              have HK4 := Lib.hid (HKR.out.trans hk4)
              have hk34 : Kp [] w3 w4 := (by rw [HWR.out] at hk4; exact ((Kp.refl [] w3).drewN m).trans hk4)
              clear htc hk4
              obtain ⟨gE, oE, rfl, hgE, hxE⟩ := HCE.out k x.to (by simp [hx])
              obtain ⟨gT, oT, rfl, hgT, hxT⟩ := HCT.out k (tkOf x) (by simp [hx])
              have c0 : w4.cell? ⟨gE, oE + k, none⟩ = some (.int .i64 x.to) := by have := (hk34.cell (p := ⟨gE, _, none⟩) hgE (by simp)).trans (hxE 0 _ rfl); simpa using this
              have d0 : w4.cell? ⟨gT, oT + k * 4, none⟩ = some (.int .i64 x.kind) := (hk34.cell (p := ⟨gT, _, none⟩) hgT (by simp)).trans (hxT 0 _ rfl)
              have d1 : w4.cell? ⟨gT, oT + k * 4 + 1, none⟩ = some (.string ⟨x.text.toArray⟩) := (hk34.cell (p := ⟨gT, _, none⟩) hgT (by simp)).trans (hxT 1 _ rfl)
              have d2 : w4.cell? ⟨gT, oT + k * 4 + 2, none⟩ = some (.int .i64 x.line) := (hk34.cell (p := ⟨gT, _, none⟩) hgT (by simp)).trans (hxT 2 _ rfl)
              have d3 : w4.cell? ⟨gT, oT + k * 4 + 3, none⟩ = some (.int .i64 x.col) := (hk34.cell (p := ⟨gT, _, none⟩) hgT (by simp)).trans (hxT 3 _ rfl)
              have HXE := Lib.hid hxE; clear hxE
              have HXT := Lib.hid hxT; clear hxT
              have y1 : decide ((x.to : Int) ≤ ix) = false := decide_eq_false (by omega)
              have z4 : (k : Int) < (ps.length : Int) := by omega
              have HBE := Lib.hid hbe; clear hbe
              have HXX := Lib.hid hx; clear hx
              cases k with
              | zero =>
                simp only [Nat.zero_mul, Nat.add_zero] at c0 d0 d1 d2 d3
                rw [show ((0 : Nat) : Int) = 0 from rfl] at z4 ⊢
                have htxl : x.text.length ≤ 1000000 := by
                  have hdb : ∀ l : Lx.Bs, l.length ≤ (Lx.dbl l).length := by
                    intro l
                    induction l with
                    | nil => simp
                    | cons b l ih => unfold Lx.dbl; split <;> simp <;> omega
                  have h1 : x.text.length ≤ (Lx.spelled (tkOf x)).length := by
                    unfold Lx.spelled
                    split
                    · have := hdb x.text; simp [tkOf]; omega
                    · exact Nat.le_refl _
                  omega
                have hsp := spell_c (tkOf x) w4 (HM.out w4 HK4.out) htxl
                rw [hrx] at hsp
                simp only [if_true] at hsp
                have HSP := Lib.hid hsp; clear hsp
                have z5 : decide ((ps.length : Int) ≤ 0) = false := decide_eq_false (by omega)
                have z6 : ¬ (ps.length = 0) := by omega
                have z7 : ps ≠ [] := by intro e; rw [e] at hkl; simp at hkl
                go_wp2_with fail
                refine HSP.out.mono ?_
                rintro e w5 ⟨rfl, hk5⟩
                have HK5 := Lib.hid (HK4.out.trans hk5)
                have f0 : w5.cell? ⟨gE, oE, none⟩ = some (.int .i64 x.to) := (hk5.cell (p := ⟨gE, _, none⟩) (Nat.lt_of_lt_of_le hgE hk34.size) (by simp)).trans c0
                have f2 : w5.cell? ⟨gT, oT + 2, none⟩ = some (.int .i64 x.line) := (hk5.cell (p := ⟨gT, _, none⟩) (Nat.lt_of_lt_of_le hgT hk34.size) (by simp)).trans d2
                have f3 : w5.cell? ⟨gT, oT + 3, none⟩ = some (.int .i64 x.col) := (hk5.cell (p := ⟨gT, _, none⟩) (Nat.lt_of_lt_of_le hgT hk34.size) (by simp)).trans d3
                have hgE5 := Nat.lt_of_lt_of_le hgE (hk34.trans hk5).size
                have hgT5 := Nat.lt_of_lt_of_le hgT (hk34.trans hk5).size
                clear c0 d0 d1 d2 d3
                have hac := at_c t ((x.to : Int) - (Lx.spelled (tkOf x)).length) w5 (by omega)
                rw [hat] at hac
                have HAC := Lib.hid hac; clear hac
                go_wp2_with fail
                refine HAC.out.mono ?_
                rintro e w6 ⟨hk6, rfl⟩
                have HK6 := Lib.hid (HK5.out.trans hk6)
                have g2 : w6.cell? ⟨gT, oT + 2, none⟩ = some (.int .i64 x.line) := (hk6.cell (p := ⟨gT, _, none⟩) hgT5 (by simp)).trans f2
                have g3 : w6.cell? ⟨gT, oT + 3, none⟩ = some (.int .i64 x.col) := (hk6.cell (p := ⟨gT, _, none⟩) hgT5 (by simp)).trans f3
                clear f0 f2 f3 hk6 hk5 hk34
                go_wp2_with fail
                rw [HP0.out]
                exact ⟨rfl, HK6.out⟩
              | succ k =>
                obtain ⟨z, hz⟩ : ∃ z, ps[k]? = some z := ⟨ps[k], by simp⟩
                obtain ⟨gE', oE', e1, _, hzE⟩ := HCE.out k z.to (by simp [hz])
                obtain ⟨rfl, rfl⟩ : gE = gE' ∧ oE = oE' := by simpa using e1
                have b0 : w4.cell? ⟨gE, oE + k, none⟩ = some (.int .i64 z.to) := by have := (hk34.cell (p := ⟨gE, _, none⟩) hgE (by simp)).trans (hzE 0 _ rfl); simpa using this
                have hzt : (z.to : Int) ≤ ix := by have := HBE.out k z (by omega) hz; simpa using this
                clear hzE
                obtain ⟨n, hn⟩ : ∃ n, n = k + 1 := ⟨_, rfl⟩
                rw [← hn] at c0 d0 d1 d2 d3 hkl z4 HXX HXE HXT ⊢
                have htxl : x.text.length ≤ 1000000 := by
                  have hdb : ∀ l : Lx.Bs, l.length ≤ (Lx.dbl l).length := by
                    intro l
                    induction l with
                    | nil => simp
                    | cons b l ih => unfold Lx.dbl; split <;> simp <;> omega
                  have h1 : x.text.length ≤ (Lx.spelled (tkOf x)).length := by
                    unfold Lx.spelled
                    split
                    · have := hdb x.text; simp [tkOf]; omega
                    · exact Nat.le_refl _
                  omega
                have hsp := spell_c (tkOf x) w4 (HM.out w4 HK4.out) htxl
                rw [hrx] at hsp
                simp only [if_true] at hsp
                have HSP := Lib.hid hsp; clear hsp
                have z5 : decide ((ps.length : Int) ≤ (n : Int)) = false := decide_eq_false (by omega)
                have z6 : decide ((n : Int) < 0) = false := decide_eq_false (by omega)
                have z7 : decide ((0 : Int) < (n : Int)) = true := decide_eq_true (by omega)
                have z7n : decide (0 < n) = true := decide_eq_true (by omega)
                have z7m : 0 < n := by omega
                have z8 : decide (ix < (z.to : Int)) = false := decide_eq_false (by omega)
                have z9 : IntKind.i64.wrap ((n : Int) - 1) = (k : Int) := by rw [show (n : Int) - 1 = (k : Int) by omega]; exact Go.IntWalk.i64_in _ (by omega)
                have z10 : (k : Int) < (ps.length : Int) := by omega
                have z11 : (0 : Int) ≤ (k : Int) := by omega
                have z12 : (n : Int) - 1 = (k : Int) := by omega
                have HNK := Lib.hid hn; clear hn
                go_wp2_with fail
                refine HSP.out.mono ?_
                rintro e w5 ⟨rfl, hk5⟩
                have HK5 := Lib.hid (HK4.out.trans hk5)
                have f0 : w5.cell? ⟨gE, oE + n, none⟩ = some (.int .i64 x.to) := (hk5.cell (p := ⟨gE, _, none⟩) (Nat.lt_of_lt_of_le hgE hk34.size) (by simp)).trans c0
                have f2 : w5.cell? ⟨gT, oT + n * 4 + 2, none⟩ = some (.int .i64 x.line) := (hk5.cell (p := ⟨gT, _, none⟩) (Nat.lt_of_lt_of_le hgT hk34.size) (by simp)).trans d2
                have f3 : w5.cell? ⟨gT, oT + n * 4 + 3, none⟩ = some (.int .i64 x.col) := (hk5.cell (p := ⟨gT, _, none⟩) (Nat.lt_of_lt_of_le hgT hk34.size) (by simp)).trans d3
                have hgE5 := Nat.lt_of_lt_of_le hgE (hk34.trans hk5).size
                have hgT5 := Nat.lt_of_lt_of_le hgT (hk34.trans hk5).size
                clear c0 d0 d1 d2 d3 b0
                have hac := at_c t ((x.to : Int) - (Lx.spelled (tkOf x)).length) w5 (by omega)
                rw [hat] at hac
                have HAC := Lib.hid hac; clear hac
                go_wp2_with fail
                refine HAC.out.mono ?_
                rintro e w6 ⟨hk6, rfl⟩
                have HK6 := Lib.hid (HK5.out.trans hk6)
                have g2 : w6.cell? ⟨gT, oT + n * 4 + 2, none⟩ = some (.int .i64 x.line) := (hk6.cell (p := ⟨gT, _, none⟩) hgT5 (by simp)).trans f2
                have g3 : w6.cell? ⟨gT, oT + n * 4 + 3, none⟩ = some (.int .i64 x.col) := (hk6.cell (p := ⟨gT, _, none⟩) hgT5 (by simp)).trans f3
                clear f0 f2 f3 hk6 hk5 hk34
                go_wp2_with fail
                rw [HP0.out]
                exact ⟨rfl, HK6.out⟩
    · have he1 : (er != 0) = true := by simpa using he
      have he2 : (er == 0) = false := by simpa using he
      go_wp2_with fail
      rw [HP0.out]
      exact ⟨by simp, HK3.out⟩

end Go.Proofs.YtogmealngeejmaaDoor
