import Derived.Test.YtogmealngeejmaaGreatDoorJoined27
/- The reference: Lex, Ends, At, Token: the walks. -/
namespace Go.Proofs.YtogmealngeejmaaGreatDoor
open Go Go.RowKit

set_option maxRecDepth 100000 in
set_option maxHeartbeats 2000000 in
theorem rLex_c (t : ByteArray) (w : World) (hsz : t.size ≤ 1100000) : Calls Tryz.prog 19 #[.string t] w fun e w' => Kp [] w w' ∧
    ∃ v, e = .returned (.tuple #[v, .int .i64 (Lx.dv t.data.toList).2.1, .int .i64 (Lx.dv t.data.toList).2.2]) ∧ w'.ownsRow w.heap.size 34 4 v (Lx.dv t.data.toList).1.length (((Lx.dv t.data.toList).1.map tkOf).flatMap cellsTk) := by
  obtain ⟨P0, hP0⟩ : ∃ P0 : Ending → World → Prop, P0 = fun e w' => Kp [] w w' ∧ ∃ v, e = .returned (.tuple #[v, .int .i64 (Lx.dv t.data.toList).2.1, .int .i64 (Lx.dv t.data.toList).2.2]) ∧
    w'.ownsRow w.heap.size 34 4 v (Lx.dv t.data.toList).1.length (((Lx.dv t.data.toList).1.map tkOf).flatMap cellsTk) := ⟨_, rfl⟩
  rw [← hP0]
  have HP0 := Lib.hid hP0; clear hP0
  have hdl := Lx.dv_len t.data.toList
  have hdv := fun W => rDivide_c t W hsz
  obtain ⟨⟨l, er, ea⟩, hdq⟩ : ∃ q, Lx.dv t.data.toList = q := ⟨_, rfl⟩
  simp only [hdq] at HP0 hdl hdv
  have HDV := Lib.hid hdv; clear hdv hdq
  go_enter Tryz.func19, Tryz.ntmps19
  go_wp2_with fail
  refine (HDV.out w).mono ?_
  rintro e w1 ⟨hk1, v, rfl, hv⟩
  obtain ⟨bo, cap, rfl, hcell⟩ := (Rd.of_own cellsPc_length hv).view
  have HC := Lib.hid hcell; clear hcell
  have HK1 := Lib.hid hk1; clear hk1 hv
  go_wp2_with fail
  go_loopg [8, 9] l.length (fun n x y wr => ∃ k : Nat, n = l.length - k ∧ y = .int .i64 k ∧ k ≤ l.length ∧ Kp [] w1 wr ∧ wr.ownsRow w1.heap.size 34 4 x k (((l.take k).map tkOf).flatMap cellsTk))
  case atStart => exact ⟨0, rfl, rfl, by omega, Kp.refl _ _, World.ownsRow_nil _ _ _ _⟩
  case round =>
    obtain ⟨k, rfl, rfl, hk, hkp, hrow⟩ := hrel
    by_cases hkl : k = l.length
    · subst hkl
      have hb : decide ((l.length : Int) < l.length) = false := by simp
      have HR := Lib.hid hrow; clear hrow
      go_wp2_with fail
      refine bodyPost_ret (results_tmp3 rfl _ _ _) rfl ?_
      rw [HP0.out]
      exact ⟨HK1.out.trans hkp, _, rfl, by have := HR.out; rw [List.take_length] at this; exact ownsRow_base this HK1.out.size⟩
    · have hkl' : k < l.length := by omega
      have hb : decide ((k : Int) < l.length) = true := by simpa using hkl'
      obtain ⟨x, hx⟩ : ∃ x, l[k]? = some x := ⟨l[k], by simp [hkl']⟩
      obtain ⟨g, off, rfl, hglt, hxc⟩ := HC.out k x hx
      have c0 : wr.cell? ⟨g, off + k * 6, none⟩ = some (.int .i64 x.kind) := (hkp.cell (p := ⟨g, _, none⟩) hglt (by simp)).trans (hxc 0 _ rfl)
      have c1 : wr.cell? ⟨g, off + k * 6 + 1, none⟩ = some (.string ⟨x.text.toArray⟩) := (hkp.cell (p := ⟨g, _, none⟩) hglt (by simp)).trans (hxc 1 _ rfl)
      have c2 : wr.cell? ⟨g, off + k * 6 + 2, none⟩ = some (.int .i64 x.line) := (hkp.cell (p := ⟨g, _, none⟩) hglt (by simp)).trans (hxc 2 _ rfl)
      have c3 : wr.cell? ⟨g, off + k * 6 + 3, none⟩ = some (.int .i64 x.col) := (hkp.cell (p := ⟨g, _, none⟩) hglt (by simp)).trans (hxc 3 _ rfl)
      clear hxc
      have hrow2 := hrow
      have HK2 := Lib.hid hkp; clear hkp hrow
      obtain ⟨i0, hi, hz0, hz1, hz2⟩ := info_parts info_token
      have hnew : ∀ j u, (cellsTk (tkOf x))[j]? = some u → (wr.alloc (.cells #[.int .i64 x.kind, .string ⟨x.text.toArray⟩, .int .i64 x.line, .int .i64 x.col] 34)).cell? ((⟨wr.heap.size, 0, none⟩ : Addr).add j) = some u := by
        intro j u hj
        have := cell_of_block (heap_alloc_new wr (.cells #[.int .i64 x.kind, .string ⟨x.text.toArray⟩, .int .i64 x.line, .int .i64 x.col] 34)) j
        have ea : ((⟨wr.heap.size, 0, none⟩ : Addr).add j) = ⟨wr.heap.size, j, none⟩ := by
          unfold Addr.add; simp only [Nat.zero_add]; split
          · rename_i h; rw [h]
          · rfl
        rw [ea, this, ← hj]
        simp [cellsTk, tkOf]
      go_wp2_with (at_builtin; go_loud (refine wpList_append_own _ rfl _ _ 22 rfl w1.heap.size 34 i0 _ 4 40 Tryz.underlying22 hi hz0 hz1 hz2 rfl (by decide) _ _ _ rfl (hrow2.alloc _) ⟨wr.heap.size, 0, none⟩ 1 1 (cellsTk (tkOf x)) rfl rfl hnew (by simp [cellsTk, Value.oneCell']) (by simp [maxLen]; omega) (by omega) (by have := HK2.out.size; simp; omega) ?_; intro v' w3 hown' hgrow _))
      go_roundg (l.length - (k + 1))
      case measure => omega
      case rel =>
        refine ⟨k + 1, rfl, by simp, by omega, (HK2.out.alloc _).grown hgrow (fun j hj => .inr ?_), ?_⟩
        · rcases hrow2.2 with ⟨rfl, _⟩ | ⟨g', cap', cur', rfl, hb', _⟩
          · simp [go_sem, Value.ownBlock] at hj
          · simp [go_sem, Value.ownBlock] at hj; omega
        · have e1 : l.take (k + 1) = l.take k ++ [x] := by simp [List.take_add_one, hx]
          rw [e1]; simpa using hown'

set_option maxRecDepth 100000 in
set_option maxHeartbeats 2000000 in
theorem rEnds_c (t : ByteArray) (w : World) (hsz : t.size ≤ 1100000) : Calls Tryz.prog 21 #[.string t] w fun e w' => Kp [] w w' ∧
    ∃ v, e = .returned (.tuple #[v, .int .i64 (Lx.dv t.data.toList).2.1, .int .i64 (Lx.dv t.data.toList).2.2]) ∧ w'.ownsRow w.heap.size 3 1 v (Lx.dv t.data.toList).1.length (((Lx.dv t.data.toList).1.map (·.to)).flatMap cellsI) := by
  obtain ⟨P0, hP0⟩ : ∃ P0 : Ending → World → Prop, P0 = fun e w' => Kp [] w w' ∧ ∃ v, e = .returned (.tuple #[v, .int .i64 (Lx.dv t.data.toList).2.1, .int .i64 (Lx.dv t.data.toList).2.2]) ∧
    w'.ownsRow w.heap.size 3 1 v (Lx.dv t.data.toList).1.length (((Lx.dv t.data.toList).1.map (·.to)).flatMap cellsI) := ⟨_, rfl⟩
  rw [← hP0]
  have HP0 := Lib.hid hP0; clear hP0
  have hdl := Lx.dv_len t.data.toList
  have hdv := fun W => rDivide_c t W hsz
  obtain ⟨⟨l, er, ea⟩, hdq⟩ : ∃ q, Lx.dv t.data.toList = q := ⟨_, rfl⟩
  simp only [hdq] at HP0 hdl hdv
  have HDV := Lib.hid hdv; clear hdv hdq
  go_enter Tryz.func21, Tryz.ntmps21
  go_wp2_with fail
  refine (HDV.out w).mono ?_
  rintro e w1 ⟨hk1, v, rfl, hv⟩
  obtain ⟨bo, cap, rfl, hcell⟩ := (Rd.of_own cellsPc_length hv).view
  have HC := Lib.hid hcell; clear hcell
  have HK1 := Lib.hid hk1; clear hk1 hv
  go_wp2_with fail
  go_loopg [8, 9] l.length (fun n x y wr => ∃ k : Nat, n = l.length - k ∧ y = .int .i64 k ∧ k ≤ l.length ∧ Kp [] w1 wr ∧ wr.ownsRow w1.heap.size 3 1 x k (((l.take k).map (·.to)).flatMap cellsI))
  case atStart => exact ⟨0, rfl, rfl, by omega, Kp.refl _ _, World.ownsRow_nil _ _ _ _⟩
  case round =>
    obtain ⟨k, rfl, rfl, hk, hkp, hrow⟩ := hrel
    by_cases hkl : k = l.length
    · subst hkl
      have hb : decide ((l.length : Int) < l.length) = false := by simp
      have HR := Lib.hid hrow; clear hrow
      go_wp2_with fail
      refine bodyPost_ret (results_tmp3 rfl _ _ _) rfl ?_
      rw [HP0.out]
      exact ⟨HK1.out.trans hkp, _, rfl, by have := HR.out; rw [List.take_length] at this; exact ownsRow_base this HK1.out.size⟩
    · have hkl' : k < l.length := by omega
      have hb : decide ((k : Int) < l.length) = true := by simpa using hkl'
      obtain ⟨x, hx⟩ : ∃ x, l[k]? = some x := ⟨l[k], by simp [hkl']⟩
      obtain ⟨g, off, rfl, hglt, hxc⟩ := HC.out k x hx
      have c5 : wr.cell? ⟨g, off + k * 6 + 5, none⟩ = some (.int .i64 x.to) := (hkp.cell (p := ⟨g, _, none⟩) hglt (by simp)).trans (hxc 5 _ rfl)
      clear hxc
      have hrow2 := hrow
      have HK2 := Lib.hid hkp; clear hkp hrow
      obtain ⟨i0, hi, hz0, hz1, hz2⟩ := info_parts info_int
      go_wp2_with (at_builtin; go_loud (refine wpList_append_own _ rfl _ _ 38 rfl w1.heap.size 3 i0 _ 1 8 Tryz.underlying38 hi hz0 hz1 hz2 rfl (by decide) _ _ _ rfl (hrow2.alloc _) ⟨wr.heap.size, 0, none⟩ 1 1 (cellsI x.to) rfl rfl (cell_one_new _ _ _) (by simp [cellsI, Value.oneCell']) (by simp [maxLen]; omega) (by omega) (by have := HK2.out.size; simp; omega) ?_; intro v' w3 hown' hgrow _))
      go_roundg (l.length - (k + 1))
      case measure => omega
      case rel =>
        refine ⟨k + 1, rfl, by simp, by omega, (HK2.out.alloc _).grown hgrow (fun j hj => .inr ?_), ?_⟩
        · rcases hrow2.2 with ⟨rfl, _⟩ | ⟨g', cap', cur', rfl, hb', _⟩
          · simp [go_sem, Value.ownBlock] at hj
          · simp [go_sem, Value.ownBlock] at hj; omega
        · have e1 : l.take (k + 1) = l.take k ++ [x] := by simp [List.take_add_one, hx]
          rw [e1]; simpa using hown'

set_option maxRecDepth 100000 in
set_option maxHeartbeats 1000000 in
theorem rAt_c (t : ByteArray) (i : Int) (w : World) (hsz : t.size ≤ 1100000) : Calls Tryz.prog 27 #[.string t, .int .i64 i] w fun e w' => Kp [] w w' ∧
    e = .returned (.tuple #[.int .i64 (Lx.at t.data.toList i).1, .int .i64 (Lx.at t.data.toList i).2.1, .int .i64 (Lx.at t.data.toList i).2.2]) := by
  obtain ⟨P0, hP0⟩ : ∃ P0 : Ending → World → Prop, P0 = fun e w' => Kp [] w w' ∧ e = .returned (.tuple #[.int .i64 (Lx.at t.data.toList i).1, .int .i64 (Lx.at t.data.toList i).2.1, .int .i64 (Lx.at t.data.toList i).2.2]) := ⟨_, rfl⟩
  rw [← hP0]
  have HP0 := Lib.hid hP0; clear hP0
  go_enter Tryz.func27, Tryz.ntmps27
  cases h0 : decide (i < 0)
  · have h0' : 0 ≤ i := by simpa using h0
    cases h1 : decide ((t.size : Int) < i)
    · have h1' : i ≤ t.size := by simpa using h1
      have hat : Lx.at t.data.toList i = ((Lx.adv (t.data.toList.take i.toNat) (1, 1)).1, (Lx.adv (t.data.toList.take i.toNat) (1, 1)).2, 0) := by
        unfold Lx.at; rw [if_pos ⟨h0', by rw [size_list]; exact h1'⟩]
      have HAT := Lib.hid hat; clear hat
      have hpl := rPlaced_c t i.toNat w hsz (by omega)
      rw [show ((i.toNat : Nat) : Int) = i by omega] at hpl
      have HPL := Lib.hid hpl; clear hpl
      go_wp2_with fail
      refine HPL.out.mono ?_
      rintro e w' ⟨rfl, rfl⟩
      go_wp2_with fail
      refine bodyPost_ret (results_tmp3 rfl _ _ _) rfl ?_
      rw [HP0.out]
      exact ⟨Kp.refl _ _, by rw [HAT.out]; rfl⟩
    · go_wp2_with fail
      refine bodyPost_ret (results_tmp3 rfl _ _ _) rfl ?_
      rw [HP0.out]
      refine ⟨Kp.refl _ _, ?_⟩
      unfold Lx.at
      rw [if_neg (by rw [size_list]; have : (t.size : Int) < i := of_decide_eq_true h1; omega)]
      rfl
  · go_wp2_with fail
    refine bodyPost_ret (results_tmp3 rfl _ _ _) rfl ?_
    rw [HP0.out]
    refine ⟨Kp.refl _ _, ?_⟩
    unfold Lx.at
    rw [if_neg (by have : i < 0 := of_decide_eq_true h0; omega)]
    rfl

set_option maxRecDepth 100000 in
set_option maxHeartbeats 1000000 in
theorem rToken_c (t : ByteArray) (i : Int) (w : World) (hsz : t.size ≤ 1100000) : Calls Tryz.prog 25 #[.string t, .int .i64 i] w fun e w' => Kp [] w w' ∧
    e = .returned (.tuple #[.int .i64 (Lx.tokenAt t.data.toList i).1, .int .i64 (Lx.tokenAt t.data.toList i).2.1, .int .i64 (Lx.tokenAt t.data.toList i).2.2]) := by
  obtain ⟨P0, hP0⟩ : ∃ P0 : Ending → World → Prop, P0 = fun e w' => Kp [] w w' ∧ e = .returned (.tuple #[.int .i64 (Lx.tokenAt t.data.toList i).1, .int .i64 (Lx.tokenAt t.data.toList i).2.1, .int .i64 (Lx.tokenAt t.data.toList i).2.2]) := ⟨_, rfl⟩
  rw [← hP0]
  have HP0 := Lib.hid hP0; clear hP0
  have hlen := size_list t
  have htk : Lx.tokenAt t.data.toList i = if (Lx.dv t.data.toList).2.1 ≠ 0 then (0, (Lx.dv t.data.toList).2.1, (Lx.dv t.data.toList).2.2)
    else if i < 0 ∨ (t.size : Int) ≤ i then (0, 1, 0)
    else if idxOf (fun p => decide (i < p.to)) (Lx.dv t.data.toList).1 < 0 then (0, 3, 0)
    else (idxOf (fun p => decide (i < p.to)) (Lx.dv t.data.toList).1, 0, 0) := by unfold Lx.tokenAt; rw [hlen]
  have hdl := Lx.dv_len t.data.toList
  have hdv := fun W => rDivide_c t W hsz
  obtain ⟨⟨l, er, ea⟩, hdq⟩ : ∃ q, Lx.dv t.data.toList = q := ⟨_, rfl⟩
  obtain ⟨R, hR⟩ : ∃ R, Lx.tokenAt t.data.toList i = R := ⟨_, rfl⟩
  simp only [hdq] at hdl hdv htk
  rw [hR] at HP0 htk
  have HDV := Lib.hid hdv; clear hdv hdq hR
  have HT := Lib.hid htk; clear htk
  go_enter Tryz.func25, Tryz.ntmps25
  go_wp2_with fail
  refine (HDV.out w).mono ?_
  rintro e w1 ⟨hk1, v, rfl, hv⟩
  obtain ⟨bo, cap, rfl, hcell⟩ := (Rd.of_own cellsPc_length hv).view
  have HC := Lib.hid hcell; clear hcell
  have HK1 := Lib.hid hk1; clear hk1 hv
  simp only
  cases he : (er != 0)
  · have he' : er = 0 := by simpa using he
    have HT2 := HT.out
    rw [if_neg (by simpa using he')] at HT2
    cases h0 : decide (i < 0)
    · have h0' : 0 ≤ i := by simpa using h0
      cases h1 : decide ((t.size : Int) ≤ i)
      · have h1' : i < t.size := by simpa using h1
        rw [if_neg (by omega)] at HT2
        have HT3 := Lib.hid HT2; clear HT2
        go_wp2_with fail
        go_loopg [10] l.length (fun n y wr => ∃ k : Nat, n = l.length - k ∧ y = .int .i64 k ∧ k ≤ l.length ∧ wr = w1 ∧ Hid (∀ j x, j < k → l[j]? = some x → decide (i < (x.to : Int)) = false))
        case atStart => exact ⟨0, rfl, rfl, by omega, rfl, Lib.hid (fun j x h => by omega)⟩
        case round =>
          obtain ⟨k, rfl, rfl, hk, rfl, HN⟩ := hrel
          by_cases hkl : k = l.length
          · subst hkl
            have hb : decide ((l.length : Int) < l.length) = false := by simp
            have hidx := idxOf_none (p := fun p : Lx.Pc => decide (i < (p.to : Int))) HN.out
            have HR : Hid (R = (0, 3, 0)) := Lib.hid (by rw [HT3.out, hidx]; rfl)
            clear hidx
            go_wp2_with fail
            refine bodyPost_ret (results_tmp3 rfl _ _ _) rfl ?_
            rw [HP0.out]
            exact ⟨HK1.out, by rw [HR.out]; rfl⟩
          · have hkl' : k < l.length := by omega
            have hb : decide ((k : Int) < l.length) = true := by simpa using hkl'
            obtain ⟨x, hx⟩ : ∃ x, l[k]? = some x := ⟨l[k], by simp [hkl']⟩
            obtain ⟨g, off, rfl, hglt, hxc⟩ := HC.out k x hx
            have c5 : wr.cell? ⟨g, off + k * 6 + 5, none⟩ = some (.int .i64 x.to) := hxc 5 _ rfl
            clear hxc
            cases hlt : decide (i < (x.to : Int))
            · have HX := Lib.hid hx; clear hx
              go_wp2_with fail
              go_roundg (l.length - (k + 1))
              case measure => omega
              case rel =>
                refine ⟨k + 1, rfl, by simp, by omega, rfl, Lib.hid (fun j y hj hy => ?_)⟩
                by_cases hjk : j = k
                · subst hjk; rw [HX.out] at hy; cases hy; exact hlt
                · exact HN.out j y (by omega) hy
            · have hidx := idxOf_some (p := fun p : Lx.Pc => decide (i < (p.to : Int))) HN.out hx hlt
              have HR : Hid (R = ((k : Int), 0, 0)) := Lib.hid (by rw [HT3.out, hidx, if_neg (by omega)])
              clear hidx hx
              go_wp2_with fail
              refine bodyPost_ret (results_tmp3 rfl _ _ _) rfl ?_
              rw [HP0.out]
              exact ⟨HK1.out, by rw [HR.out]; rfl⟩
      · have h1' : (t.size : Int) ≤ i := by simpa using h1
        have HR : Hid (R = (0, 1, 0)) := Lib.hid (by rw [HT2, if_pos (.inr h1')])
        clear HT2
        go_wp2_with fail
        refine bodyPost_ret (results_tmp3 rfl _ _ _) rfl ?_
        rw [HP0.out]
        exact ⟨HK1.out, by rw [HR.out]; rfl⟩
    · have h0' : i < 0 := by simpa using h0
      have HR : Hid (R = (0, 1, 0)) := Lib.hid (by rw [HT2, if_pos (.inl h0')])
      clear HT2
      go_wp2_with fail
      refine bodyPost_ret (results_tmp3 rfl _ _ _) rfl ?_
      rw [HP0.out]
      exact ⟨HK1.out, by rw [HR.out]; rfl⟩
  · have he' : er ≠ 0 := by simpa using he
    have HR : Hid (R = (0, er, ea)) := Lib.hid (by rw [HT.out, if_pos he'])
    go_wp2_with fail
    refine bodyPost_ret (results_tmp3 rfl _ _ _) rfl ?_
    rw [HP0.out]
    exact ⟨HK1.out, by rw [HR.out]; rfl⟩

end Go.Proofs.YtogmealngeejmaaGreatDoor
