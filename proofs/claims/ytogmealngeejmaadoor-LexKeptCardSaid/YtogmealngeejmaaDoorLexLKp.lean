/- LexKept: the walk. -/
import Derived.Test.YtogmealngeejmaaDoorLexPlI
import Derived.Test.YtogmealngeejmaaDoorLexAwW
namespace Go.Proofs.YtogmealngeejmaaDoor
open Go Go.RowKit

theorem Rd.first {α : Type} {W : World} {b : Option Addr} {n cap size : Nat} {enc : α → List Value} {l : List α} (h : Rd W (.slice b n cap) size enc l) {k : Nat} (hk : k ≤ l.length) : Rd W (.slice b k cap) size enc (l.take k) := by
  obtain ⟨hs, ⟨hv, hl⟩ | ⟨g, off, cap', cur, e, z, hv, hg, hc⟩⟩ := h
  · subst hl
    obtain rfl : k = 0 := by simpa using hk
    cases hv
    exact ⟨hs, .inl ⟨rfl, rfl⟩⟩
  · cases hv
    refine ⟨hs, .inr ⟨g, off, cap, cur, e, z, by rw [List.length_take, Nat.min_eq_left hk], hg, ?_⟩⟩
    have e1 : l.flatMap enc = (l.take k).flatMap enc ++ (l.drop k).flatMap enc := by rw [← List.flatMap_append, List.take_append_drop]
    have e2 : ((l.take k).flatMap enc).length = k * size := by
      have : ∀ q : List α, (q.flatMap enc).length = q.length * size := by
        intro q
        induction q with
        | nil => simp
        | cons x q ih => rw [List.flatMap_cons, List.length_append, ih, hs, List.length_cons, Nat.succ_mul]; omega
      rw [this, List.length_take, Nat.min_eq_left hk]
    have e3 : (l.take k).flatMap enc = (l.flatMap enc).take (k * size) := by rw [e1, ← e2, List.take_left]
    rw [e3, ← hc, List.take_take, List.length_take, Nat.min_eq_left hk, Nat.min_eq_left (Nat.mul_le_mul_right _ hk)]

theorem back_list (l : Lx.Bs) : (⟨l.toArray⟩ : ByteArray).data.toList = l := by simp

theorem back_bytes (s : ByteArray) : (⟨s.data.toList.toArray⟩ : ByteArray) = s := by cases s; simp

theorem Rd.capLen {W : World} {b : Option Addr} {n cap : Nat} {base : Nat} {e : TypeId} {size m : Nat} {cs : List Value} (h : W.ownsRow base e size (.slice b n cap) m cs) : n = m ∧ n ≤ cap := by
  rcases h.2 with ⟨hv, hl⟩ | ⟨g, cap', cur, hv, _, _, hle, _⟩
  · cases hv; exact ⟨hl.symm, Nat.le_refl _⟩
  · cases hv; exact ⟨rfl, hle⟩

set_option maxRecDepth 100000 in
set_option maxHeartbeats 4000000 in
theorem lexKept_c (s : ByteArray) (frm tw : Int) (wi : ByteArray) (w : World) (hm : ∃ m, w.cell? ⟨0, 0, none⟩ = some (.int .i64 m)) : Calls Tryd.prog 3 #[.string s, .int .i64 frm, .int .i64 tw, .string wi] w fun e w' => e = .returned (.bool true) ∧ Kp [] w w' := by
  obtain ⟨P0, hP0⟩ : ∃ P0 : Ending → World → Prop, P0 = fun e w' => e = .returned (.bool true) ∧ Kp [] w w' := ⟨_, rfl⟩
  rw [← hP0]
  have HP0 := Lib.hid hP0; clear hP0
  have HAW := Lib.hid (awake_c w hm)
  clear hm
  go_enter Tryd.func3, Tryd.ntmps3
  by_cases h3 : 3000 < s.size
  · have b3 : decide ((3000 : Int) < s.size) = true := decide_eq_true (by omega)
    go_wp2_with fail
    refine HAW.out.mono ?_
    rintro e w1 ⟨rfl, hk1⟩
    have HK1 := Lib.hid hk1; clear hk1
    go_wp2_with fail
    rw [HP0.out]
    exact ⟨rfl, HK1.out⟩
  · have b3 : decide ((3000 : Int) < s.size) = false := decide_eq_false (by omega)
    by_cases h4 : 3000 < wi.size
    · have b4 : decide ((3000 : Int) < wi.size) = true := decide_eq_true (by omega)
      go_wp2_with fail
      refine HAW.out.mono ?_
      rintro e w1 ⟨rfl, hk1⟩
      have HK1 := Lib.hid hk1; clear hk1
      go_wp2_with fail
      rw [HP0.out]
      exact ⟨rfl, HK1.out⟩
    · have b4 : decide ((3000 : Int) < wi.size) = false := decide_eq_false (by omega)
      go_wp2_with fail
      refine HAW.out.mono ?_
      rintro e w1 ⟨rfl, hk1⟩
      have HK1 := Lib.hid hk1; clear hk1
      have hed := edit_c s frm tw wi w1 (by omega) (by omega)
      by_cases hok : (Lx.edit s.data.toList frm tw wi.data.toList).2.2.2.1 = 0
      · obtain ⟨out, l, m, head, tail, a, b, hE, hl, hmo, K⟩ := Lx.edit_keeps hok
        rw [hE] at hed
        simp only at hed
        have HK := Lib.hid K
        have HL := Lib.hid hl; clear hl
        have HMO := Lib.hid hmo; clear hmo
        clear hok hE
        have k1 := K.ok
        have k2 := K.len
        have k3 := K.fits
        rw [size_list] at k1 k2
        rw [size_list] at k2
        have hol : out.length ≤ 6000 := by omega
        have hos : (⟨out.toArray⟩ : ByteArray).size = out.length := by simp [ByteArray.size]
        have HOS := Lib.hid hos; clear hos
        have HED := Lib.hid hed; clear hed
        go_wp2_with fail
        refine HED.out.mono ?_
        rintro e w2 ⟨hk2, rfl⟩
        have HK2 := Lib.hid (HK1.out.trans hk2); clear hk2
        have hlx := lex_c s w2 (by omega)
        rw [HL.out] at hlx
        simp only at hlx
        have HLX := Lib.hid hlx; clear hlx
        go_wp2_with fail
        refine HLX.out.mono ?_
        rintro e w3 ⟨hk3, v3, rfl, hr3⟩
        have HR3 := Lib.hid (Rd.of_own cellsTk_length (by simpa using hr3) : Rd w3 v3 4 cellsTk (l.map tkOf))
        have HO3 := Lib.hid hr3; clear hr3
        have HK3 := Lib.hid (HK2.out.trans hk3); clear hk3
        have hlx := lex_c ⟨out.toArray⟩ w3 (by rw [HOS.out]; omega)
        rw [back_list, HMO.out] at hlx
        simp only at hlx
        have HLX2 := Lib.hid hlx; clear hlx
        go_wp2_with fail
        refine HLX2.out.mono ?_
        rintro e w4 ⟨hk4, v4, rfl, hr4⟩
        have HR4 := Lib.hid (Rd.of_own cellsTk_length (by simpa using hr4) : Rd w4 v4 4 cellsTk (m.map tkOf))
        have HO4 := Lib.hid hr4; clear hr4
        have HR3' := Lib.hid (HR3.out.keep hk4)
        have HK4 := Lib.hid (HK3.out.trans hk4); clear hk4
        obtain ⟨⟨line, col, z1⟩, hat⟩ : ∃ q, Lx.at s.data.toList tw = q := ⟨_, rfl⟩
        obtain ⟨⟨row, pos, z2⟩, hat2⟩ : ∃ q, Lx.at out (frm + wi.size) = q := ⟨_, rfl⟩
        have hz1 : 0 ≤ tw ∧ tw ≤ s.size := by omega
        have hz2 : 0 ≤ frm + wi.size ∧ frm + wi.size ≤ out.length := by omega
        have hd1 : Lx.at s.data.toList tw = ((Lx.adv (s.data.toList.take tw.toNat) (1, 1)).1, (Lx.adv (s.data.toList.take tw.toNat) (1, 1)).2, 0) := by unfold Lx.at; rw [if_pos (by rw [size_list]; exact hz1)]
        have hd2 : Lx.at out (frm + wi.size) = ((Lx.adv (out.take (frm + wi.size).toNat) (1, 1)).1, (Lx.adv (out.take (frm + wi.size).toNat) (1, 1)).2, 0) := by unfold Lx.at; rw [if_pos hz2]
        have bd1 := Lx.adv_bound (s.data.toList.take tw.toNat) (1, 1)
        have bd2 := Lx.adv_bound (out.take (frm + wi.size).toNat) (1, 1)
        have bl1 : (s.data.toList.take tw.toNat).length ≤ 6000 := by rw [List.length_take, size_list]; omega
        have bl2 : (out.take (frm + wi.size).toNat).length ≤ 6000 := by rw [List.length_take]; omega
        have hza := hat; have hzb := hat2
        rw [hd1] at hza; rw [hd2] at hzb
        simp only [Prod.mk.injEq] at hza hzb
        rw [hza.1, hza.2.1] at bd1
        rw [hzb.1, hzb.2.1] at bd2
        simp only at bd1 bd2
        have bd3 : 0 ≤ line ∧ line ≤ 7000 ∧ 0 ≤ col ∧ col ≤ 7000 ∧ 0 ≤ row ∧ row ≤ 7000 ∧ 0 ≤ pos ∧ pos ≤ 7000 := by omega
        obtain ⟨rfl, rfl⟩ : z1 = 0 ∧ z2 = 0 := ⟨hza.2.2.symm, hzb.2.2.symm⟩
        clear hd1 hd2 bd1 bd2 bl1 bl2 hza hzb hz1
        have hac := at_c s tw w4 (by omega)
        rw [hat] at hac
        have HAC := Lib.hid hac; clear hac
        have HAT := Lib.hid hat; clear hat
        go_wp2_with fail
        refine HAC.out.mono ?_
        rintro e w5 ⟨hk5, rfl⟩
        have HR3'' := Lib.hid (HR3'.out.keep hk5)
        have HR4' := Lib.hid (HR4.out.keep hk5)
        have HK5 := Lib.hid (HK4.out.trans hk5); clear hk5
        have hac := at_c ⟨out.toArray⟩ (frm + wi.size) w5 (by rw [HOS.out]; omega)
        rw [back_list, hat2] at hac
        have HAC2 := Lib.hid hac; clear hac
        have HAT2 := Lib.hid hat2; clear hat2
        have z1 : IntKind.i64.wrap (frm + wi.size) = frm + wi.size := Go.IntWalk.i64_in _ (by omega)
        have z2 : 0 ≤ frm := by omega
        go_wp2_with fail
        refine HAC2.out.mono ?_
        rintro e w6 ⟨hk6, rfl⟩
        have HRL := Lib.hid (HR3''.out.keep hk6)
        have HRM := Lib.hid (HR4'.out.keep hk6)
        have HK6 := Lib.hid (HK5.out.trans hk6); clear hk6
        clear HR3 HR3' HR3'' HR4 HR4' HAC HAC2 HLX HLX2
        obtain ⟨bT, cT, rfl, hcT⟩ := HRL.out.view
        obtain ⟨bM, cM, rfl, hcM⟩ := HRM.out.view
        have HCT := Lib.hid hcT; clear hcT
        have HCM := Lib.hid hcM; clear hcM
        simp only [List.length_map] at HRL HRM HO3 HO4 ⊢
        have cl1 := (Rd.capLen HO3.out).2
        have cl2 := (Rd.capLen HO4.out).2
        have hsm := HK.out.same
        have hpl : eqBy Tok.alike ((l.map tkOf).take head) ((m.map tkOf).take head) = true ∧ eqBy Tok.atOne ((l.map tkOf).take head) ((m.map tkOf).take head) = true := by
          rw [← List.map_take, ← List.map_take, hsm]
          refine ⟨eqBy_yes rfl fun j x y _ hx hy => ?_, eqBy_yes rfl fun j x y _ hx hy => ?_⟩
          · rw [hx] at hy; cases hy; simp [Tok.alike]
          · rw [hx] at hy; cases hy; simp [Tok.atOne]
        have hpc : ∀ W, Kp [] w6 W → Calls Tryd.prog 10 #[.slice bT head cT, .slice bM head cM] W fun e w' => e = .returned (.bool true) ∧ Kp [] W w' := fun W hk => by
          have := placed_c _ _ _ _ W ((HRL.out.first (k := head) (by rw [List.length_map]; omega)).keep hk) ((HRM.out.first (k := head) (by rw [List.length_map]; omega)).keep hk) (by rw [List.length_take, List.length_map]; have := (Lx.dv_len s.data.toList); rw [HL.out] at this; simp only at this; omega) (by rw [List.length_take, List.length_map]; have := (Lx.dv_len out); rw [HMO.out] at this; simp only at this; omega)
          rw [hpl.1, hpl.2] at this
          exact this
        have hll := Lx.dv_len s.data.toList
        have hml := Lx.dv_len out
        rw [HL.out] at hll
        rw [HMO.out] at hml
        simp only at hll hml
        have HPC := Lib.hid hpc; clear hpc hpl hsm
        have hs1 : ∀ W, (Instr.slice 26 (.slice bT l.length cT) none (some (.int .i64 (head : Int))) none).run Tryd.prog W = .ok (.slice bT head cT) W := fun W => by
          have hu : Tryd.prog.underlying 26 = some (.slice (Tryd.prog.elem 26)) := by kernel_rfl
          have hz : ∀ W, (sizeOf (Tryd.prog.elem 26)).run Tryd.prog W = .ok 4 W := fun W => by kernel_rfl
          rw [run_slice_h _ _ _ _ _ hu _ _ (by omega) (by omega), hz]
          simp only [Result.andThen, sliced, Int.toNat_natCast, Nat.sub_zero, Nat.zero_mul]
          cases bT with
          | none => simp
          | some p => simp [Addr.add]
        have hs2 : ∀ W, (Instr.slice 26 (.slice bM m.length cM) none (some (.int .i64 (head : Int))) none).run Tryd.prog W = .ok (.slice bM head cM) W := fun W => by
          have hu : Tryd.prog.underlying 26 = some (.slice (Tryd.prog.elem 26)) := by kernel_rfl
          have hz : ∀ W, (sizeOf (Tryd.prog.elem 26)).run Tryd.prog W = .ok 4 W := fun W => by kernel_rfl
          rw [run_slice_h _ _ _ _ _ hu _ _ (by omega) (by omega), hz]
          simp only [Result.andThen, sliced, Int.toNat_natCast, Nat.sub_zero, Nat.zero_mul]
          cases bM with
          | none => simp
          | some p => simp [Addr.add]
        have t1 : decide ((head : Int) < 0) = false := decide_eq_false (by omega)
        have t2 : decide ((tail : Int) < 0) = false := decide_eq_false (by omega)
        have t3 : IntKind.i64.wrap ((head : Int) + tail) = (head : Int) + tail := Go.IntWalk.i64_in _ (by omega)
        have t4 : decide ((l.length : Int) < (head : Int) + tail) = false := decide_eq_false (by omega)
        have t5 : decide ((m.length : Int) < (head : Int) + tail) = false := decide_eq_false (by omega)
        have t6 : decide (l.length < head + tail) = false := decide_eq_false (by omega)
        have t7 : decide (m.length < head + tail) = false := decide_eq_false (by omega)
        go_wp2_with fail
        refine wp_region_kept (by kernel_rfl) (by kernel_rfl) ?_
        intro M hM f hf hfr
        have HF := Lib.hid hf; clear hf
        have HFR := Lib.hid hfr; clear hfr
        iterate 48 (go_big_quiet_step ((refine (HPC.out _ (HF.out _)).mono ?_; rintro e w2 ⟨rfl, hk2⟩; exact ⟨rfl, HFR.out _ ((HF.out _).trans hk2)⟩)))
        refine wpQuiet_nil ?_
        rintro _ ⟨mm, rfl⟩
        obtain ⟨w7, hw7⟩ : ∃ w7, w7 = f mm := ⟨_, rfl⟩
        have HK7 := Lib.hid (HF.out mm)
        rw [← hw7] at HK7 ⊢
        have HK67 := Lib.hid (HK6.out.trans HK7.out)
        clear hw7 HF HFR hs1 hs2 t1 t2 t3 t4 t5 t6 t7 HPC
        go_wp2_with fail
        go_loopg [27] tail (fun n y wr => ∃ k : Nat, n = tail - k ∧ y = .int .i64 ((k : Int) + 1) ∧ k ≤ tail ∧ Kp [] w7 wr)
        case atStart => exact ⟨0, rfl, rfl, Nat.zero_le _, Kp.refl _ _⟩
        case round =>
          obtain ⟨k, rfl, rfl, hkt, hkp⟩ := hrel
          by_cases hkl : k < tail
          · have b1 : decide ((k : Int) + 1 ≤ tail) = true := decide_eq_true (by omega)
            obtain ⟨io, hio⟩ : ∃ io, io = l.length - 1 - k := ⟨_, rfl⟩
            obtain ⟨jo, hjo⟩ : ∃ jo, jo = m.length - 1 - k := ⟨_, rfl⟩
            obtain ⟨x, hx⟩ : ∃ x, l[io]? = some x := ⟨l[io]'(by omega), by simp⟩
            obtain ⟨y, hy⟩ : ∃ y, m[jo]? = some y := ⟨m[jo]'(by omega), by simp⟩
            obtain ⟨hal, hln, hco⟩ := HK.out.back k x y hkl (by rw [← hio]; exact hx) (by rw [← hjo]; exact hy)
            rw [size_list, HAT.out, HAT2.out] at hln hco
            simp only at hln hco
            unfold Tok.alike at hal
            simp only [Bool.and_eq_true, beq_iff_eq, tkOf] at hal
            obtain ⟨gT, oT, rfl, hgT, hxT⟩ := HCT.out io (tkOf x) (by simp [hx])
            obtain ⟨gM, oM, rfl, hgM, hyM⟩ := HCM.out jo (tkOf y) (by simp [hy])
            have hk6 := HK7.out.trans hkp
            have hsz := hk6.size
            have c0 : wr.cell? ⟨gT, oT + io * 4, none⟩ = some (.int .i64 x.kind) := (hk6.cell (p := ⟨gT, _, none⟩) hgT (by simp)).trans (hxT 0 _ rfl)
            have c1 : wr.cell? ⟨gT, oT + io * 4 + 1, none⟩ = some (.string ⟨x.text.toArray⟩) := (hk6.cell (p := ⟨gT, _, none⟩) hgT (by simp)).trans (hxT 1 _ rfl)
            have c2 : wr.cell? ⟨gT, oT + io * 4 + 2, none⟩ = some (.int .i64 x.line) := (hk6.cell (p := ⟨gT, _, none⟩) hgT (by simp)).trans (hxT 2 _ rfl)
            have c3 : wr.cell? ⟨gT, oT + io * 4 + 3, none⟩ = some (.int .i64 x.col) := (hk6.cell (p := ⟨gT, _, none⟩) hgT (by simp)).trans (hxT 3 _ rfl)
            have d0 : wr.cell? ⟨gM, oM + jo * 4, none⟩ = some (.int .i64 x.kind) := by rw [hal.1]; exact (hk6.cell (p := ⟨gM, _, none⟩) hgM (by simp)).trans (hyM 0 _ rfl)
            have d1 : wr.cell? ⟨gM, oM + jo * 4 + 1, none⟩ = some (.string ⟨x.text.toArray⟩) := by rw [hal.2]; exact (hk6.cell (p := ⟨gM, _, none⟩) hgM (by simp)).trans (hyM 1 _ rfl)
            have d2 : wr.cell? ⟨gM, oM + jo * 4 + 2, none⟩ = some (.int .i64 (x.line + (row - line))) := by rw [← hln]; exact (hk6.cell (p := ⟨gM, _, none⟩) hgM (by simp)).trans (hyM 2 _ rfl)
            have bx := Lx.adv_bound (s.data.toList.take x.frm) (1, 1)
            rw [Lx.dv_place s.data.toList x (by rw [HL.out]; exact List.mem_of_getElem? hx), List.length_take, size_list] at bx
            simp only at bx
            have bxx : 0 ≤ x.line ∧ x.line ≤ 7000 ∧ 0 ≤ x.col ∧ x.col ≤ 7000 := by omega
            have z1 : IntKind.i64.wrap ((l.length : Int) - ((k : Int) + 1)) = (io : Int) := by rw [show (l.length : Int) - ((k : Int) + 1) = (io : Int) by omega]; exact Go.IntWalk.i64_in _ (by omega)
            have z2 : IntKind.i64.wrap ((m.length : Int) - ((k : Int) + 1)) = (jo : Int) := by rw [show (m.length : Int) - ((k : Int) + 1) = (jo : Int) by omega]; exact Go.IntWalk.i64_in _ (by omega)
            have z1' : (l.length : Int) - ((k : Int) + 1) = (io : Int) := by omega
            have z2' : (m.length : Int) - ((k : Int) + 1) = (jo : Int) := by omega
            have z3 : (io : Int) < (l.length : Int) := by omega
            have z4 : (jo : Int) < (m.length : Int) := by omega
            have y9 : jo < m.length := by omega
            have y10 : io < l.length := by omega
            have y1 : (0 : Int) ≤ (jo : Int) := by omega
            have y2 : ¬ ((jo : Int) < 0) := by omega
            have y3 : ¬ ((m.length : Int) ≤ (jo : Int)) := by omega
            have y4 : ((jo : Int)).toNat = jo := by omega
            have y5 : (0 : Int) ≤ (m.length : Int) - ((k : Int) + 1) := by omega
            have y6 : (m.length : Int) - ((k : Int) + 1) < (m.length : Int) := by omega
            have y7 : ((m.length : Int) - ((k : Int) + 1)).toNat = jo := by omega
            have y8 : ¬ ((m.length : Int) - ((k : Int) + 1) < 0) := by omega
            have z5 : IntKind.i64.wrap (pos - col) = pos - col := Go.IntWalk.i64_in _ (by omega)
            have z6 : IntKind.i64.wrap (row - line) = row - line := Go.IntWalk.i64_in _ (by omega)
            have z7 : IntKind.i64.wrap (x.col + (pos - col)) = x.col + (pos - col) := Go.IntWalk.i64_in _ (by omega)
            have z8 : IntKind.i64.wrap (x.line + (row - line)) = x.line + (row - line) := Go.IntWalk.i64_in _ (by omega)
            have z9 : IntKind.i64.wrap ((k : Int) + 1 + 1) = (k : Int) + 1 + 1 := Go.IntWalk.i64_in _ (by omega)
            have hyc := (hk6.cell (p := ⟨gM, oM + (jo * 4 + 3), none⟩) hgM (by simp)).trans (hyM 3 _ rfl)
            have HKP := Lib.hid hkp; clear hkp
            by_cases hl0 : x.line = line
            · have q1 : (x.line == line) = true := by simp [hl0]
              rw [if_pos hl0] at hco
              have d3 : wr.cell? ⟨gM, oM + jo * 4 + 3, none⟩ = some (.int .i64 (x.col + (pos - col))) := by rw [← hco]; exact hyc
              have HX := Lib.hid hx; clear hx hy hxT hyM hyc hio hjo hal hln hco hl0 bx hk6
              go_wp2_with fail
              obtain ⟨V, hV⟩ : ∃ V, V = wr.alloc (.cells #[.int .i64 x.kind, .string ⟨x.text.toArray⟩, .int .i64 (x.line + (row - line)), .int .i64 (x.col + (pos - col))] 33) := ⟨_, rfl⟩
              have hkV : Kp [] wr V := by rw [hV]; exact (Kp.refl [] wr).alloc _
              have hVx : V.heap[wr.heap.size]? = some (.cells #[.int .i64 x.kind, .string ⟨x.text.toArray⟩, .int .i64 (x.line + (row - line)), .int .i64 (x.col + (pos - col))] 33 (0, 0)) := by rw [hV]; exact heap_alloc_new wr _
              rw [← hV]
              have x0 := cell_of_block hVx 0
              have x1 := cell_of_block hVx 1
              have x2 := cell_of_block hVx 2
              have x3 := cell_of_block hVx 3
              simp only [List.getElem?_toArray, List.getElem?_cons_zero, List.getElem?_cons_succ] at x0 x1 x2 x3
              replace d0 := (hkV.cell (p := ⟨gM, _, none⟩) (Nat.lt_of_lt_of_le hgM hsz) (by simp)).trans d0
              replace d1 := (hkV.cell (p := ⟨gM, _, none⟩) (Nat.lt_of_lt_of_le hgM hsz) (by simp)).trans d1
              replace d2 := (hkV.cell (p := ⟨gM, _, none⟩) (Nat.lt_of_lt_of_le hgM hsz) (by simp)).trans d2
              replace d3 := (hkV.cell (p := ⟨gM, _, none⟩) (Nat.lt_of_lt_of_le hgM hsz) (by simp)).trans d3
              have HKV := Lib.hid (HKP.out.trans hkV)
              clear hVx hkV hV c0 c1 c2 c3
              go_quiet (fail)
              go_wp2_with fail
              go_roundg (tail - (k + 1))
              case measure => omega
              case rel => exact ⟨k + 1, rfl, by simp, by omega, HKV.out.drewN _⟩
            · have q1 : (x.line == line) = false := by simpa using hl0
              rw [if_neg hl0] at hco
              have d3 : wr.cell? ⟨gM, oM + jo * 4 + 3, none⟩ = some (.int .i64 x.col) := by rw [← hco]; exact hyc
              have HX := Lib.hid hx; clear hx hy hxT hyM hyc hio hjo hal hln hco hl0 bx hk6
              go_wp2_with fail
              obtain ⟨V, hV⟩ : ∃ V, V = wr.alloc (.cells #[.int .i64 x.kind, .string ⟨x.text.toArray⟩, .int .i64 (x.line + (row - line)), .int .i64 (x.col)] 33) := ⟨_, rfl⟩
              have hkV : Kp [] wr V := by rw [hV]; exact (Kp.refl [] wr).alloc _
              have hVx : V.heap[wr.heap.size]? = some (.cells #[.int .i64 x.kind, .string ⟨x.text.toArray⟩, .int .i64 (x.line + (row - line)), .int .i64 (x.col)] 33 (0, 0)) := by rw [hV]; exact heap_alloc_new wr _
              rw [← hV]
              have x0 := cell_of_block hVx 0
              have x1 := cell_of_block hVx 1
              have x2 := cell_of_block hVx 2
              have x3 := cell_of_block hVx 3
              simp only [List.getElem?_toArray, List.getElem?_cons_zero, List.getElem?_cons_succ] at x0 x1 x2 x3
              replace d0 := (hkV.cell (p := ⟨gM, _, none⟩) (Nat.lt_of_lt_of_le hgM hsz) (by simp)).trans d0
              replace d1 := (hkV.cell (p := ⟨gM, _, none⟩) (Nat.lt_of_lt_of_le hgM hsz) (by simp)).trans d1
              replace d2 := (hkV.cell (p := ⟨gM, _, none⟩) (Nat.lt_of_lt_of_le hgM hsz) (by simp)).trans d2
              replace d3 := (hkV.cell (p := ⟨gM, _, none⟩) (Nat.lt_of_lt_of_le hgM hsz) (by simp)).trans d3
              have HKV := Lib.hid (HKP.out.trans hkV)
              clear hVx hkV hV c0 c1 c2 c3
              go_quiet (fail)
              go_wp2_with fail
              go_roundg (tail - (k + 1))
              case measure => omega
              case rel => exact ⟨k + 1, rfl, by simp, by omega, HKV.out.drewN _⟩
          · obtain rfl : k = tail := by omega
            have b1 : decide ((k : Int) + 1 ≤ k) = false := decide_eq_false (by omega)
            have HKP := Lib.hid (HK67.out.trans hkp); clear hkp
            obtain ⟨h', t', a', hag⟩ := HK.out.again
            have hed := edit_c ⟨out.toArray⟩ frm (frm + wi.size) (s.extract frm.toNat tw.toNat) wr (by rw [HOS.out]; omega) (by rw [← size_list, ext_list, List.length_take, List.length_drop, size_list]; omega)
            rw [back_list, ext_list] at hed
            rw [size_list, List.drop_take] at hag
            rw [hag] at hed
            simp only at hed
            have HED2 := Lib.hid hed; clear hed hag
            have z3 : frm ≤ tw := by omega
            have z4 : tw ≤ s.size := by omega
            go_wp2_with fail
            refine HED2.out.mono ?_
            rintro e w8 ⟨hk8, rfl⟩
            rw [back_bytes]
            have HK8 := Lib.hid (HKP.out.trans hk8); clear hk8
            go_wp2_with fail
            rw [HP0.out]
            exact ⟨rfl, HK8.out⟩
      · obtain ⟨e1, e2, e3⟩ := Lx.edit_bad hok
        obtain ⟨⟨o, hd, tl, er, a⟩, hR⟩ : ∃ R, Lx.edit s.data.toList frm tw wi.data.toList = R := ⟨_, rfl⟩
        rw [hR] at hed hok e1 e2 e3
        simp only at hed hok e1 e2 e3
        subst e1; subst e2; subst e3
        have q1 : (er != 0) = true := by simpa using hok
        have q2 : (er == 0) = false := by simpa using hok
        have HED := Lib.hid hed
        clear hok hR hed
        go_wp2_with fail
        refine HED.out.mono ?_
        rintro e w2 ⟨hk2, rfl⟩
        have HK2 := Lib.hid (HK1.out.trans hk2); clear hk2
        go_wp2_with fail
        rw [HP0.out]
        exact ⟨rfl, HK2.out⟩

end Go.Proofs.YtogmealngeejmaaDoor
