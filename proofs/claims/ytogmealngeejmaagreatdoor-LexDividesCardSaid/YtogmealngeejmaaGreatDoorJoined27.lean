import Derived.Test.YtogmealngeejmaaGreatDoorJoined26
/- The reference: which dot joins; a text divided: the walks. -/
namespace Go.Proofs.YtogmealngeejmaaGreatDoor
open Go Go.RowKit

/-- Whether a dot at a place joins, behind some pieces. -/
def Lx.joinsR (l : Lx.Bs) (a : Nat) (ps : List Lx.Pc) : Bool := match ps.getLast? with
  | none => false
  | some p => p.kind == 1 && p.to == a && (Lx.letter (Lx.nx (l.drop a) 1) || Lx.isop (Lx.nx (l.drop a) 1))

set_option maxRecDepth 100000 in
set_option maxHeartbeats 2000000 in
theorem rJoins_c (s : ByteArray) (a : Nat) (ps : List Lx.Pc) (v : Value) (w : World) (hs : s.size ≤ 1100000) (ha : a < s.size) (hr : Rd w v 6 cellsPc ps) (hpl : ps.length ≤ 1100000) :
    Calls Tryz.prog 76 #[.string s, .int .i64 a, v] w fun e w' => e = .returned (.bool (Lx.joinsR s.data.toList a ps)) ∧ Kp [] w w' := by
  obtain ⟨P0, hP0⟩ : ∃ P0 : Ending → World → Prop, P0 = fun e w' => e = .returned (.bool (Lx.joinsR s.data.toList a ps)) ∧ Kp [] w w' := ⟨_, rfl⟩
  rw [← hP0]
  have HP0 := Lib.hid hP0; clear hP0
  have hl := size_list s
  obtain ⟨bo, cap, rfl, hcell⟩ := hr.view
  have HCE := Lib.hid hcell; clear hcell hr
  go_enter Tryz.func76, Tryz.ntmps76
  have z1 : IntKind.i64.wrap ((a : Int) + 1) = (a : Int) + 1 := Go.IntWalk.i64_in _ (by omega)
  by_cases hn : ps.length = 0
  · have e0 : ((ps.length : Int) == 0) = true := by simp [hn]
    have HJ : Hid (Lx.joinsR s.data.toList a ps = false) := Lib.hid (by rw [List.length_eq_zero_iff.1 hn]; rfl)
    clear hn
    go_wp2_with fail
    rw [HP0.out]
    exact ⟨by rw [HJ.out]; rfl, Kp.refl _ _⟩
  · have e0 : ((ps.length : Int) == 0) = false := by simpa using hn
    obtain ⟨n, hn1⟩ : ∃ n, ps.length = n + 1 := ⟨ps.length - 1, by omega⟩
    obtain ⟨x, hx⟩ : ∃ x, ps[n]? = some x := ⟨ps[n]'(by omega), by simp⟩
    have hlast : ps.getLast? = some x := by rw [List.getLast?_eq_getElem?, hn1]; exact hx
    have HJ : Hid (Lx.joinsR s.data.toList a ps = (x.kind == 1 && x.to == a && (Lx.letter (Lx.nx (s.data.toList.drop a) 1) || Lx.isop (Lx.nx (s.data.toList.drop a) 1)))) := Lib.hid (by unfold Lx.joinsR; rw [hlast])
    by_cases h1 : a + 1 < s.size
    · have b1 : decide ((s.size : Int) ≤ (a : Int) + 1) = false := decide_eq_false (by omega)
      obtain ⟨g, off, rfl, hg, hxc⟩ := HCE.out n x hx
      have c0 : w.cell? ⟨g, off + n * 6, none⟩ = some (.int .i64 x.kind) := hxc 0 _ rfl
      have c1 : w.cell? ⟨g, off + n * 6 + 1, none⟩ = some (.string ⟨x.text.toArray⟩) := hxc 1 _ rfl
      have c2 : w.cell? ⟨g, off + n * 6 + 2, none⟩ = some (.int .i64 x.line) := hxc 2 _ rfl
      have c3 : w.cell? ⟨g, off + n * 6 + 3, none⟩ = some (.int .i64 x.col) := hxc 3 _ rfl
      have c4 : w.cell? ⟨g, off + n * 6 + 4, none⟩ = some (.int .i64 x.frm) := hxc 4 _ rfl
      have c5 : w.cell? ⟨g, off + n * 6 + 5, none⟩ = some (.int .i64 x.to) := hxc 5 _ rfl
      have z2 : IntKind.i64.wrap ((ps.length : Int) - 1) = (n : Int) := by rw [show (ps.length : Int) - 1 = (n : Int) by omega]; exact Go.IntWalk.i64_in _ (by omega)
      have z3 : (ps.length : Int) - 1 = (n : Int) := by omega
      have z4 : (n : Int) < (ps.length : Int) := by omega
      have z5 : (0 : Int) ≤ (n : Int) := by omega
      obtain ⟨c, hc⟩ : ∃ c, s.data.toList.getD (a + 1) 0 = c := ⟨_, rfl⟩
      have hix := ix_byte s (a + 1) h1 hc
      rw [show ((a + 1 : Nat) : Int) = (a : Int) + 1 by omega] at hix
      have hnx := Lx.nx_drop s.data.toList a 1
      rw [hc, show ((1 : Nat) : Int) = 1 from rfl] at hnx
      have hcl := byte_lt c
      have HJ2 := HJ.out
      rw [hnx] at HJ2
      have HJJ := Lib.hid HJ2; clear HJ2 HJ hnx hc hx hlast hxc
      have HN1 := Lib.hid hn1; clear hn1 hn
      cases hk : (x.kind == 1)
      · have HF : Hid (Lx.joinsR s.data.toList a ps = false) := Lib.hid (by rw [HJJ.out, hk]; rfl)
        go_wp2_with fail
        rw [HP0.out]
        exact ⟨by rw [HF.out]; rfl, (Kp.refl _ _).alloc _⟩
      · cases ht : ((x.to : Int) == (a : Int))
        · have HF : Hid (Lx.joinsR s.data.toList a ps = false) := Lib.hid (by
            rw [HJJ.out]
            have h' : ¬ (x.to : Int) = a := by simpa using ht
            have : (x.to == a) = false := by simpa using fun h => h' (by rw [h])
            rw [this]; simp)
          go_wp2_with fail
          rw [HP0.out]
          exact ⟨by rw [HF.out]; rfl, (Kp.refl _ _).alloc _⟩
        · have HT : Hid (Lx.joinsR s.data.toList a ps = (Lx.letter c || Lx.isop c)) := Lib.hid (by
            rw [HJJ.out, hk]
            have h' : (x.to : Int) = a := by simpa using ht
            have : (x.to == a) = true := by simpa using (by omega : x.to = a)
            rw [this]; rfl)
          cases hle : Lx.letter c
          · have HLE := Lib.hid hle; clear hle
            go_wp2_with fail
            refine (rLetter_c c _).mono ?_
            rintro e w' ⟨rfl, rfl⟩
            rw [HLE.out]
            go_wp2_with fail
            refine (rInOp_c c _).mono ?_
            rintro e w' ⟨rfl, rfl⟩
            go_wp2_with fail
            rw [HP0.out]
            exact ⟨by rw [HT.out, HLE.out]; rfl, (Kp.refl _ _).alloc _⟩
          · have HLE := Lib.hid hle; clear hle
            go_wp2_with fail
            refine (rLetter_c c _).mono ?_
            rintro e w' ⟨rfl, rfl⟩
            rw [HLE.out]
            go_wp2_with fail
            rw [HP0.out]
            exact ⟨by rw [HT.out, HLE.out]; rfl, (Kp.refl _ _).alloc _⟩
    · have b1 : decide ((s.size : Int) ≤ (a : Int) + 1) = true := decide_eq_true (by omega)
      have HF : Hid (Lx.joinsR s.data.toList a ps = false) := Lib.hid (by
        rw [HJ.out]
        have hnx := Lx.nx_drop s.data.toList a 1
        rw [show ((1 : Nat) : Int) = 1 from rfl] at hnx
        rw [hnx, getD_past s _ (by omega), Lx.letter_zero, Lx.isop_zero]; simp)
      have HN := Lib.hid hn; clear hn hn1
      go_wp2_with fail
      rw [HP0.out]
      exact ⟨by rw [HF.out]; rfl, Kp.refl _ _⟩

theorem info_rpiece : (Tryz.prog.info? 80).map (fun i => (i.zero, i.size, i.bytes)) = some (some (.agg #[.int .i64 0, .string .empty, .int .i64 0, .int .i64 0, .int .i64 0, .int .i64 0]), 6, 56) := by kernel_rfl

/-- The name that is remembered, told by the last piece. -/
def Lx.nameOk (ps : List Lx.Pc) (a : Nat) (name : Int) : Prop := 0 ≤ name ∧ name ≤ a ∧ match ps.getLast? with
  | none => name = 0
  | some p => p.to = a ∧ 0 < a ∧ (p.kind = 1 → name = a) ∧ (p.kind ≠ 1 → name < a)

theorem Lx.nameOk_joins {ps : List Lx.Pc} {a : Nat} {name : Int} (h : Lx.nameOk ps a name) (l : Lx.Bs) (n : Nat) :
    (Lx.joined (a + n) name = true ∧ (Lx.letter (Lx.nx (l.drop (a + n)) 1) = true ∨ Lx.isop (Lx.nx (l.drop (a + n)) 1) = true)) ↔ Lx.joinsR l (a + n) ps = true := by
  obtain ⟨h0, h1, h2⟩ := h
  unfold Lx.joinsR Lx.joined
  cases hg : ps.getLast? with
  | none =>
    rw [hg] at h2
    simp only at h2 ⊢
    subst h2
    simp only [Bool.and_eq_true, decide_eq_true_eq, beq_iff_eq]
    constructor
    · rintro ⟨⟨a, b⟩, _⟩; omega
    · intro h; cases h
  | some p =>
    rw [hg] at h2
    simp only at h2 ⊢
    obtain ⟨h3, h4, h5, h6⟩ := h2
    simp only [Bool.and_eq_true, Bool.or_eq_true, decide_eq_true_eq, beq_iff_eq]
    constructor
    · rintro ⟨⟨q1, q2⟩, q3⟩
      refine ⟨⟨?_, by omega⟩, q3⟩
      by_cases hk : p.kind = 1
      · exact hk
      · have := h6 hk; omega
    · rintro ⟨⟨q1, q2⟩, q3⟩
      have := h5 q1
      exact ⟨⟨by omega, by omega⟩, q3⟩




set_option maxRecDepth 100000 in
set_option maxHeartbeats 4000000 in
theorem rDivide_c (s : ByteArray) (w : World) (hs : s.size ≤ 1100000) :
    Calls Tryz.prog 49 #[.string s] w fun e w' => Kp [] w w' ∧ ∃ v, e = .returned (.tuple #[v, .int .i64 (Lx.dv s.data.toList).2.1, .int .i64 (Lx.dv s.data.toList).2.2]) ∧
      w'.ownsRow w.heap.size 80 6 v (Lx.dv s.data.toList).1.length ((Lx.dv s.data.toList).1.flatMap cellsPc) := by
  obtain ⟨P0, hP0⟩ : ∃ P0 : Ending → World → Prop, P0 = fun e w' => Kp [] w w' ∧ ∃ v, e = .returned (.tuple #[v, .int .i64 (Lx.dv s.data.toList).2.1, .int .i64 (Lx.dv s.data.toList).2.2]) ∧
      w'.ownsRow w.heap.size 80 6 v (Lx.dv s.data.toList).1.length ((Lx.dv s.data.toList).1.flatMap cellsPc) := ⟨_, rfl⟩
  rw [← hP0]
  have HP0 := Lib.hid hP0; clear hP0
  have hl := size_list s
  have HDV : Hid (Lx.dv s.data.toList = match (Lx.divide s.data.toList).2 with
    | none => ((Lx.divide s.data.toList).1, 0, 0)
    | some (er, a) => ([], er, a)) := Lib.hid rfl
  go_enter Tryz.func49, Tryz.ntmps49
  by_cases h2 : 20000 < s.size
  · have b2 : decide ((20000 : Int) < s.size) = true := decide_eq_true (by omega)
    have HD : Hid (Lx.dv s.data.toList = ([], 2, 0)) := Lib.hid (by
      rw [HDV.out]; unfold Lx.divide; rw [if_neg (by omega)])
    go_wp2_with fail
    refine bodyPost_ret (results_tmp3 rfl _ _ _) rfl ?_
    rw [HP0.out]
    exact ⟨Kp.refl _ _, _, by rw [HD.out]; rfl, by rw [HD.out]; exact World.ownsRow_nil _ _ _ _⟩
  · have b2 : decide ((20000 : Int) < s.size) = false := decide_eq_false (by omega)
    have HD : Hid (Lx.divide s.data.toList = Lx.divs (s.size + 1) 0 s.data.toList 1 1 0 0) := Lib.hid (by
      unfold Lx.divide; rw [if_pos (by omega), hl])
    go_wp2_with fail
    go_loopg [5, 6, 7, 8] s.size (fun n x5 x6 x7 x8 wr => ∃ (ps : List Lx.Pc) (a f : Nat) (line col name : Int), n = s.size - a ∧ x6 = .int .i64 (a : Int) ∧ x7 = .int .i64 line ∧ x8 = .int .i64 col ∧ a ≤ s.size ∧ s.size - a < f ∧ ps.length ≤ 6000 ∧
      Hid (Lx.adv (s.data.toList.take a) (1, 1) = (line, col)) ∧ Hid (Lx.nameOk ps a name) ∧
      Hid (Lx.divide s.data.toList = (ps ++ (Lx.divs f a (s.data.toList.drop a) line col name ps.length).1, (Lx.divs f a (s.data.toList.drop a) line col name ps.length).2)) ∧
      Kp [] w wr ∧ wr.ownsRow w.heap.size 80 6 x5 ps.length (ps.flatMap cellsPc))
    case atStart =>
      refine ⟨[], 0, s.size + 1, 1, 1, 0, rfl, rfl, rfl, rfl, Nat.zero_le _, by omega, by simp, rfl, ⟨by omega, by simp, rfl⟩, ?_, Kp.refl _ _, World.ownsRow_nil _ _ _ _⟩
      rw [HD.out]; simp [Hid]
    case round =>
      obtain ⟨ps, a, f, line, col, name, rfl, rfl, rfl, rfl, ha, hf, hpl, HADV, HNM, HDI, hkp, hrow⟩ := hrel
      obtain ⟨f, rfl⟩ : ∃ g, f = g + 1 := ⟨f - 1, by omega⟩
      have hrd : Rd wr u5 6 cellsPc ps := Rd.of_own cellsPc_length hrow
      have HRD := Lib.hid hrd; clear hrd
      have HRW := Lib.hid hrow; clear hrow
      have HKP := Lib.hid hkp; clear hkp
      have hpa := rPassed_c s a wr hs ha
      have hdi := HDI.out
      rw [divs_succ] at hdi
      cases hq : Lx.pas 0 none (s.data.toList.drop a) with
      | «open» n =>
        rw [hq] at hpa hdi
        simp only at hdi
        have HR : Hid (Lx.dv s.data.toList = ([], 11, a + n)) := Lib.hid (by rw [HDV.out, hdi])
        rw [show passedV a (.open n) = .tuple #[.int .i64 ((a + n : Nat) : Int), .bool false] from rfl] at hpa
        obtain ⟨t, ht⟩ : ∃ t, a + n = t := ⟨_, rfl⟩
        rw [ht] at hpa HR
        have HPA := Lib.hid hpa; clear hpa hdi hq
        go_wp2_with fail
        refine HPA.out.mono ?_
        rintro e w' ⟨rfl, rfl⟩
        go_wp2_with fail
        refine bodyPost_ret (results_tmp3 rfl _ _ _) rfl ?_
        rw [HP0.out]
        exact ⟨HKP.out, _, by rw [HR.out]; rfl, by rw [HR.out]; exact World.ownsRow_nil _ _ _ _⟩
      | «at» n =>
        rw [hq] at hpa hdi
        simp only at hdi
        have hnl := Lx.pas_le _ _ _ _ hq
        rw [List.length_drop, hl] at hnl
        obtain ⟨t, ht⟩ : ∃ t, a + n = t := ⟨_, rfl⟩
        rw [show passedV a (.at n) = .tuple #[.int .i64 ((a + n : Nat) : Int), .bool true] from rfl, ht] at hpa
        have HPA := Lib.hid hpa; clear hpa hq
        have hts : t ≤ s.size := by omega
        rw [List.drop_drop, ht] at hdi
        by_cases hte : t = s.size
        · have e1 : ((t : Int) == s.size) = true := by simp [hte]
          rw [if_pos (by rw [hte, ← hl]; exact List.drop_length)] at hdi
          have HR : Hid (Lx.dv s.data.toList = (ps, 0, 0)) := Lib.hid (by rw [HDV.out, hdi]; simp)
          clear hdi hte
          have HT := Lib.hid ht; clear ht
          go_wp2_with fail
          refine HPA.out.mono ?_
          rintro e w' ⟨rfl, rfl⟩
          go_wp2_with fail
          refine bodyPost_ret (results_tmp3 rfl _ _ _) rfl ?_
          rw [HP0.out]
          exact ⟨HKP.out, _, by rw [HR.out]; rfl, by rw [HR.out]; exact HRW.out⟩
        · have e1 : ((t : Int) == s.size) = false := by simpa using fun h => hte (by omega)
          have htl : t < s.size := by omega
          have hne : s.data.toList.drop t ≠ [] := by
            intro e
            have := congrArg List.length e
            rw [List.length_drop, hl] at this
            simp at this; omega
          rw [if_neg hne] at hdi
          have hfi := fun W => rFirst_c s t W hs htl
          rw [Lx.tok_join] at hdi
          have hfit := @Lx.tok_fits false (s.data.toList.drop t)
          cases hk : Lx.tok false (s.data.toList.drop t) with
          | bad er =>
            rw [hk] at hdi hfi
            simp only at hdi
            have her := Lx.tok_bad hk
            have HR : Hid (Lx.dv s.data.toList = ([], er, t)) := Lib.hid (by rw [HDV.out, hdi])
            have q1 : (er != 0) = true := by simpa using her
            have q2 : (er == 0) = false := by simpa using her
            have HFI := Lib.hid hfi; clear hfi hdi hk her hfit
            have HT := Lib.hid ht; clear ht
            go_wp2_with fail
            refine HPA.out.mono ?_
            rintro e w' ⟨rfl, rfl⟩
            go_wp2_with fail
            refine (HFI.out wr).mono ?_
            rintro e w2 ⟨⟨x, m, rfl⟩, hk2⟩
            unfold encTk
            have HK2 := Lib.hid (HKP.out.trans hk2); clear hk2
            go_wp2_with fail
            refine bodyPost_ret (results_tmp3 rfl _ _ _) rfl ?_
            rw [HP0.out]
            exact ⟨HK2.out.alloc _, _, by rw [HR.out]; rfl, by rw [HR.out]; exact World.ownsRow_nil _ _ _ _⟩
          | good k tx m =>
            rw [hk] at hdi hfi
            simp only at hdi
            have hfit2 := hfit hne hk
            rw [List.length_drop, hl] at hfit2
            have hjn := Lx.nameOk_joins HNM.out s.data.toList n
            rw [ht] at hjn
            obtain ⟨kk, hkk⟩ : ∃ kk : Int, kk = if k = 8 ∧ tx = [46] ∧ Lx.joinsR s.data.toList t ps = true then 9 else k := ⟨_, rfl⟩
            have htok : Lx.tok (Lx.joined t name) (s.data.toList.drop t) = .good kk tx m := by
              rw [Lx.tok_join, hk]
              simp only
              by_cases hC : k = 8 ∧ tx = [46] ∧ Lx.joinsR s.data.toList t ps = true
              · rw [if_pos hC] at hkk
                rw [if_pos ⟨hC.1, hC.2.1, hjn.2 hC.2.2⟩, hkk]
              · rw [if_neg hC] at hkk
                rw [if_neg (fun h => hC ⟨h.1, h.2.1, hjn.1 h.2.2⟩), hkk]
            have hcond := htok
            rw [Lx.tok_join, hk] at hcond
            simp only at hcond
            rw [hcond] at hdi
            simp only at hdi
            have HFI := Lib.hid hfi; clear hfi hfit hcond hjn hk
            by_cases hmany : ps.length = 6000
            · have q3 : ((ps.length : Int) == 6000) = true := by simp [hmany]
              rw [if_neg (by omega)] at hdi
              have HR : Hid (Lx.dv s.data.toList = ([], 2, t)) := Lib.hid (by rw [HDV.out, hdi])
              have HMANY := Lib.hid hmany; clear hmany hdi htok hkk
              have HT := Lib.hid ht; clear ht
              obtain ⟨bo, cap, rfl, _⟩ := HRD.out.view
              go_wp2_with fail
              refine HPA.out.mono ?_
              rintro e w' ⟨rfl, rfl⟩
              go_wp2_with fail
              refine (HFI.out wr).mono ?_
              rintro e w2 ⟨rfl, hk2⟩
              have HK2 := Lib.hid (HKP.out.trans hk2); clear hk2
              go_wp2_with fail
              refine bodyPost_ret (results_tmp3 rfl _ _ _) rfl ?_
              rw [HP0.out]
              exact ⟨HK2.out.alloc _, _, by rw [HR.out]; rfl, by rw [HR.out]; exact World.ownsRow_nil _ _ _ _⟩
            · have q3 : ((ps.length : Int) == 6000) = false := by simpa using fun h => hmany (by omega)
              rw [if_pos (by omega)] at hdi
              -- lines and columns
              have hadv := HADV.out
              have bd := Lx.adv_bound (s.data.toList.take a) (1, 1)
              rw [hadv, List.length_take, hl] at bd
              simp only at bd
              obtain ⟨seg, hseg⟩ : ∃ seg, seg = (s.data.toList.drop a).take n := ⟨_, rfl⟩
              have hsegl : seg.length = n := by rw [hseg, List.length_take, List.length_drop, hl]; omega
              have bs := Lx.adv_bound seg (1, 1)
              have sh := Lx.adv_shift seg 1 1 line col
              obtain ⟨⟨l1, c1⟩, h11⟩ : ∃ q, Lx.adv seg (1, 1) = q := ⟨_, rfl⟩
              obtain ⟨⟨li, co⟩, hlc⟩ : ∃ q, Lx.adv seg (line, col) = q := ⟨_, rfl⟩
              rw [h11] at bs sh
              rw [hlc] at sh
              rw [hsegl] at bs
              simp only at bs sh
              rw [← hseg, hlc] at hdi
              simp only at hdi
              rw [Lx.tok_flat hne htok] at hdi
              simp only at hdi
              have hadt : Lx.adv (s.data.toList.take t) (1, 1) = (li, co) := by rw [← ht, List.take_add, Lx.adv_append, hadv, ← hseg, hlc]
              have hadm : Lx.adv (s.data.toList.take (t + m)) (1, 1) = (li, co + m) := by
                rw [List.take_add, Lx.adv_append, hadt, Lx.tok_flat hne htok]
              rw [List.drop_drop] at hdi
              have HADM := Lib.hid hadm
              have HDI2 := Lib.hid hdi
              have HNM2 : Hid (Lx.nameOk (ps ++ [⟨kk, tx, li, co, t, t + m⟩]) (t + m) (if kk = 1 then ((t + m : Nat) : Int) else name)) := Lib.hid (by
                have hnm := HNM.out
                refine ⟨?_, ?_, ?_⟩
                · split
                  · omega
                  · exact hnm.1
                · split
                  · omega
                  · have := hnm.2.1; omega
                · rw [List.getLast?_append]
                  simp only [List.getLast?_singleton, Option.some_or]
                  refine ⟨trivial, by omega, fun h => by rw [if_pos h], fun h => by rw [if_neg h]; have := hnm.2.1; omega⟩)
              have hpl2 := rPlaced_c (s.extract a t) n
              rw [ext_list, List.take_take, Nat.min_eq_left (by omega), ← hseg, h11] at hpl2
              have hes : (s.extract a t).size = n := by rw [← size_list, ext_list, List.length_take, List.length_drop, hl]; omega
              have HPL := Lib.hid (fun W => hpl2 W (by omega) (by omega)); clear hpl2 hes
              have z1 : (t : Int) - a = (n : Int) := by omega
              have z2 : IntKind.i64.wrap ((t : Int) - a) = (n : Int) := by rw [z1]; exact Go.IntWalk.i64_in _ (by omega)
              have z3 : IntKind.i64.wrap (l1 - 1) = l1 - 1 := Go.IntWalk.i64_in _ (by omega)
              have z4 : IntKind.i64.wrap (line + (l1 - 1)) = li := by rw [show line + (l1 - 1) = li by omega]; exact Go.IntWalk.i64_in _ (by omega)
              have z5 : line + (l1 - 1) = li := by omega
              obtain ⟨q, hq⟩ : ∃ q, t + m = q := ⟨_, rfl⟩
              rw [hq] at HADM HDI2 HNM2
              have z6 : IntKind.i64.wrap ((t : Int) + m) = (q : Int) := by rw [show (t : Int) + m = (q : Int) by omega]; exact Go.IntWalk.i64_in _ (by omega)
              have z7 : (t : Int) + m = (q : Int) := by omega
              have z12 : 0 ≤ li ∧ li ≤ 3300001 := by omega
              obtain ⟨z13, z14⟩ := z12
              have z15 : IntKind.i64.wrap li = li := Go.IntWalk.i64_in _ (by omega)
              have z16 : q ≤ s.size := by omega
              have hco : 0 ≤ co ∧ co ≤ 3300001 := by
                have h := Lx.adv_bound (s.data.toList.take t) (1, 1)
                rw [hadt, List.length_take, hl] at h
                simp only at h
                omega
              have z8 : IntKind.i64.wrap (co + m) = co + m := Go.IntWalk.i64_in _ (by omega)
              have hc1b : 0 ≤ c1 ∧ c1 ≤ 1200000 ∧ 1 ≤ l1 := by omega
              have SH := Lib.hid sh
              have HADT := Lib.hid hadt
              have HT := Lib.hid ht
              clear hadt hadm hdi hadv bd bs h11 hlc hseg hsegl ht sh
              obtain ⟨bo, cap, rfl, _⟩ := HRD.out.view
              by_cases h8 : k = 8
              · have q8 : (k == 8) = true := by simp [h8]
                subst h8
                by_cases h46 : tx = [46]
                · subst h46
                  cases hj : Lx.joinsR s.data.toList t ps
                  · have hkk2 : kk = 8 := by rw [hkk, if_neg (by rw [hj]; simp)]
                    have HJR := Lib.hid hj; clear hj hkk
                    subst hkk2
                    have HTOK := Lib.hid htok; clear htok
                    go_wp2_with fail
                    refine HPA.out.mono ?_
                    rintro e w' ⟨rfl, rfl⟩
                    go_wp2_with fail
                    refine (HFI.out wr).mono ?_
                    rintro e w2 ⟨rfl, hk2⟩
                    have HK2 := Lib.hid (HKP.out.trans hk2)
                    have HK22 := Lib.hid hk2; clear hk2
                    go_wp2_with fail
                    have hjc := rJoins_c s t ps _ (w2.alloc (.cells #[.int .i64 8, .string ⟨#[46]⟩, .int .i64 0, .int .i64 0] 34)) hs htl (HRD.out.keep (HK22.out.alloc _)) (by omega)
                    rw [HJR.out] at hjc
                    refine hjc.mono ?_
                    rintro e V ⟨rfl, hkV0⟩
                    have hV := hkV0.heap (heap_alloc_new w2 (.cells #[.int .i64 8, .string ⟨#[46]⟩, .int .i64 0, .int .i64 0] 34)) (by simp)
                    have hkV := (HK2.out.alloc (.cells #[.int .i64 8, .string ⟨#[46]⟩, .int .i64 0, .int .i64 0] 34)).trans hkV0
                    have hkRV := (HK22.out.alloc (.cells #[.int .i64 8, .string ⟨#[46]⟩, .int .i64 0, .int .i64 0] 34)).trans hkV0
                    clear hkV0 hjc
                    obtain ⟨b1, hb1⟩ : ∃ b1, w2.heap.size = b1 := ⟨_, rfl⟩
                    rw [hb1] at hV ⊢
                    have HB1 := Lib.hid hb1; clear hb1
                    go_wp2_with fail
                    have v0 := cell_of_block hV 0
                    have v1 := cell_of_block hV 1
                    have v2 := cell_of_block hV 2
                    have v3 := cell_of_block hV 3
                    simp at v0 v1 v2 v3
                    have fV : ∀ o, V.frozen? ⟨b1, o, none⟩ = false := free_of_block hV
                    have lV := lt_of_block hV
                    have HV := Lib.hid hV; clear hV
                    have HKV := Lib.hid hkV
                    have HKRV := Lib.hid hkRV; clear hkV hkRV
                    refine (HPL.out V).mono ?_
                    rintro e w' ⟨rfl, rfl⟩
                    by_cases hl1 : 1 < l1
                    · have b5 : decide ((1 : Int) < l1) = true := decide_eq_true hl1
                      obtain rfl : co = c1 := by have h := SH.out.2; rwa [if_neg (by omega)] at h
                      obtain ⟨V2, hV2⟩ : ∃ V2, V2 = (V.setCell ⟨b1, 2, none⟩ (.int .i64 li)).setCell ⟨b1, 3, none⟩ (.int .i64 co) := ⟨_, rfl⟩
                      have hge : wr.heap.size ≤ b1 := by rw [← HB1.out]; exact HK22.out.size
                      have hwge : w.heap.size ≤ b1 := Nat.le_trans HKP.out.size hge
                      have hrow2 : V2.ownsRow w.heap.size 80 6 (.slice bo ps.length cap) ps.length (ps.flatMap cellsPc) := by
                        rw [hV2]
                        exact ownsRow_block HRW.out fun g hg hl => by
                          rw [Below.heap_setCell _ _ _ _ (by simp; omega), Below.heap_setCell _ _ _ _ (by simp; omega)]
                          exact HKRV.out.block g hl (by simp)
                      have HK2V : Hid (Kp [] w V2) := Lib.hid (by rw [hV2]; exact (HKV.out.setCell (p := ⟨b1, 2, none⟩) (.inr hwge) _).setCell (p := ⟨b1, 3, none⟩) (.inr hwge) _)
                      obtain ⟨i0, hi, hz0, hz1, hz2⟩ := info_parts info_rpiece
                      obtain ⟨x, hx⟩ : ∃ x : Lx.Pc, x = ⟨8, [46], li, co, t, q⟩ := ⟨_, rfl⟩
                      have hszV : V2.heap.size = V.heap.size := by rw [hV2]; simp
                      have hnew : ∀ j u, (cellsPc x)[j]? = some u → (V2.alloc (.cells #[.int .i64 8, .string ⟨#[46]⟩, .int .i64 li, .int .i64 co, .int .i64 (t : Int), .int .i64 (q : Int)] 80)).cell? ((⟨V.heap.size, 0, none⟩ : Addr).add j) = some u := by
                        intro j u hj
                        rw [← hszV]
                        have := cell_of_block (heap_alloc_new V2 (.cells #[.int .i64 8, .string ⟨#[46]⟩, .int .i64 li, .int .i64 co, .int .i64 (t : Int), .int .i64 (q : Int)] 80)) j
                        have ea : ((⟨V2.heap.size, 0, none⟩ : Addr).add j) = ⟨V2.heap.size, j, none⟩ := by
                          unfold Addr.add; simp only [Nat.zero_add]; split
                          · rename_i h; rw [h]
                          · rfl
                        rw [ea, this, ← hj, hx]
                        simp [cellsPc]
                      have hsz2 := HK2V.out.size
                      have HX := Lib.hid hx; clear hx
                      have HV2 := Lib.hid hV2; clear hV2
                      go_wp2_with (at_builtin; rw [← HV2.out]; go_loud (refine wpList_append_own _ rfl _ _ 76 rfl w.heap.size 80 i0 _ 6 56 Tryz.underlying76 hi hz0 hz1 hz2 rfl (by decide) _ _ _ rfl (hrow2.alloc _) ⟨V.heap.size, 0, none⟩ 1 1 (cellsPc x) rfl rfl hnew (by simp [cellsPc, Value.oneCell']) (by simp [maxLen]; omega) (by omega) (by have := hsz2; simp only [World.size_alloc]; omega) ?_; intro v' w3 hown' hgrow _))
                      go_roundg (s.size - q)
                      case measure => omega
                      case rel =>
                        refine ⟨ps ++ [x], q, f, li, co + m, (if 8 = 1 then ((q : Nat) : Int) else name), rfl, by simp, rfl, rfl, by omega, by omega, by simp; omega, HADM, ?_, ?_, ?_, ?_⟩
                        · rw [HX.out]; exact HNM2
                        · rw [HX.out, List.append_assoc, List.length_append, List.length_singleton]; exact HDI2
                        · exact (HK2V.out.alloc _).grown hgrow (fun j hj => .inr (by
                            rcases hrow2.2 with ⟨h1, _⟩ | ⟨g', cap', cur', h1, hb', _⟩
                            · injection h1 with e1 e2 e3; rw [e1] at hj; simp [go_sem, Value.ownBlock] at hj
                            · injection h1 with e1 e2 e3; rw [e1] at hj; simp [go_sem, Value.ownBlock] at hj; omega))
                        · rw [List.length_append, List.length_singleton, List.flatMap_append]; simpa using hown'
                    · have b5 : decide ((1 : Int) < l1) = false := decide_eq_false hl1
                      have z9 : IntKind.i64.wrap (c1 - 1) = c1 - 1 := Go.IntWalk.i64_in _ (by omega)
                      have z10 : col + (c1 - 1) = co := by have h := SH.out.2; rw [if_pos (by omega)] at h; omega
                      have z11 : IntKind.i64.wrap (col + (c1 - 1)) = co := by rw [z10]; exact Go.IntWalk.i64_in _ (by omega)
                      obtain ⟨V2, hV2⟩ : ∃ V2, V2 = (V.setCell ⟨b1, 2, none⟩ (.int .i64 li)).setCell ⟨b1, 3, none⟩ (.int .i64 co) := ⟨_, rfl⟩
                      have hge : wr.heap.size ≤ b1 := by rw [← HB1.out]; exact HK22.out.size
                      have hwge : w.heap.size ≤ b1 := Nat.le_trans HKP.out.size hge
                      have hrow2 : V2.ownsRow w.heap.size 80 6 (.slice bo ps.length cap) ps.length (ps.flatMap cellsPc) := by
                        rw [hV2]
                        exact ownsRow_block HRW.out fun g hg hl => by
                          rw [Below.heap_setCell _ _ _ _ (by simp; omega), Below.heap_setCell _ _ _ _ (by simp; omega)]
                          exact HKRV.out.block g hl (by simp)
                      have HK2V : Hid (Kp [] w V2) := Lib.hid (by rw [hV2]; exact (HKV.out.setCell (p := ⟨b1, 2, none⟩) (.inr hwge) _).setCell (p := ⟨b1, 3, none⟩) (.inr hwge) _)
                      obtain ⟨i0, hi, hz0, hz1, hz2⟩ := info_parts info_rpiece
                      obtain ⟨x, hx⟩ : ∃ x : Lx.Pc, x = ⟨8, [46], li, co, t, q⟩ := ⟨_, rfl⟩
                      have hszV : V2.heap.size = V.heap.size := by rw [hV2]; simp
                      have hnew : ∀ j u, (cellsPc x)[j]? = some u → (V2.alloc (.cells #[.int .i64 8, .string ⟨#[46]⟩, .int .i64 li, .int .i64 co, .int .i64 (t : Int), .int .i64 (q : Int)] 80)).cell? ((⟨V.heap.size, 0, none⟩ : Addr).add j) = some u := by
                        intro j u hj
                        rw [← hszV]
                        have := cell_of_block (heap_alloc_new V2 (.cells #[.int .i64 8, .string ⟨#[46]⟩, .int .i64 li, .int .i64 co, .int .i64 (t : Int), .int .i64 (q : Int)] 80)) j
                        have ea : ((⟨V2.heap.size, 0, none⟩ : Addr).add j) = ⟨V2.heap.size, j, none⟩ := by
                          unfold Addr.add; simp only [Nat.zero_add]; split
                          · rename_i h; rw [h]
                          · rfl
                        rw [ea, this, ← hj, hx]
                        simp [cellsPc]
                      have hsz2 := HK2V.out.size
                      have HX := Lib.hid hx; clear hx
                      have HV2 := Lib.hid hV2; clear hV2
                      go_wp2_with (at_builtin; rw [← HV2.out]; go_loud (refine wpList_append_own _ rfl _ _ 76 rfl w.heap.size 80 i0 _ 6 56 Tryz.underlying76 hi hz0 hz1 hz2 rfl (by decide) _ _ _ rfl (hrow2.alloc _) ⟨V.heap.size, 0, none⟩ 1 1 (cellsPc x) rfl rfl hnew (by simp [cellsPc, Value.oneCell']) (by simp [maxLen]; omega) (by omega) (by have := hsz2; simp only [World.size_alloc]; omega) ?_; intro v' w3 hown' hgrow _))
                      go_roundg (s.size - q)
                      case measure => omega
                      case rel =>
                        refine ⟨ps ++ [x], q, f, li, co + m, (if 8 = 1 then ((q : Nat) : Int) else name), rfl, by simp, rfl, rfl, by omega, by omega, by simp; omega, HADM, ?_, ?_, ?_, ?_⟩
                        · rw [HX.out]; exact HNM2
                        · rw [HX.out, List.append_assoc, List.length_append, List.length_singleton]; exact HDI2
                        · exact (HK2V.out.alloc _).grown hgrow (fun j hj => .inr (by
                            rcases hrow2.2 with ⟨h1, _⟩ | ⟨g', cap', cur', h1, hb', _⟩
                            · injection h1 with e1 e2 e3; rw [e1] at hj; simp [go_sem, Value.ownBlock] at hj
                            · injection h1 with e1 e2 e3; rw [e1] at hj; simp [go_sem, Value.ownBlock] at hj; omega))
                        · rw [List.length_append, List.length_singleton, List.flatMap_append]; simpa using hown'
                  · have hkk2 : kk = 9 := by rw [hkk, if_pos ⟨rfl, rfl, hj⟩]
                    have HJR := Lib.hid hj; clear hj hkk
                    subst hkk2
                    have HTOK := Lib.hid htok; clear htok
                    go_wp2_with fail
                    refine HPA.out.mono ?_
                    rintro e w' ⟨rfl, rfl⟩
                    go_wp2_with fail
                    refine (HFI.out wr).mono ?_
                    rintro e w2 ⟨rfl, hk2⟩
                    have HK2 := Lib.hid (HKP.out.trans hk2)
                    have HK22 := Lib.hid hk2; clear hk2
                    go_wp2_with fail
                    have hjc := rJoins_c s t ps _ (w2.alloc (.cells #[.int .i64 8, .string ⟨#[46]⟩, .int .i64 0, .int .i64 0] 34)) hs htl (HRD.out.keep (HK22.out.alloc _)) (by omega)
                    rw [HJR.out] at hjc
                    refine hjc.mono ?_
                    rintro e Y ⟨rfl, hkV0⟩
                    have hY := hkV0.heap (heap_alloc_new w2 (.cells #[.int .i64 8, .string ⟨#[46]⟩, .int .i64 0, .int .i64 0] 34)) (by simp)
                    have hkY := (HK2.out.alloc (.cells #[.int .i64 8, .string ⟨#[46]⟩, .int .i64 0, .int .i64 0] 34)).trans hkV0
                    have hkRY := (HK22.out.alloc (.cells #[.int .i64 8, .string ⟨#[46]⟩, .int .i64 0, .int .i64 0] 34)).trans hkV0
                    clear hkV0 hjc
                    obtain ⟨b1, hb1⟩ : ∃ b1, w2.heap.size = b1 := ⟨_, rfl⟩
                    rw [hb1] at hY ⊢
                    have hge1 : wr.heap.size ≤ b1 := by rw [← hb1]; exact HK22.out.size
                    have hwge1 : w.heap.size ≤ b1 := Nat.le_trans HKP.out.size hge1
                    have v00 := cell_of_block hY 0
                    simp at v00
                    have fV0 : ∀ o, Y.frozen? ⟨b1, o, none⟩ = false := free_of_block hY
                    have HB1 := Lib.hid hb1; clear hb1
                    have HYY := Lib.hid hY; clear hY
                    go_wp2_with fail
                    obtain ⟨V, hVV⟩ : ∃ V, Y.setCell ⟨b1, 0, none⟩ (.int .i64 9) = V := ⟨_, rfl⟩
                    have hV : V.heap[b1]? = some (.cells #[.int .i64 9, .string ⟨#[46]⟩, .int .i64 0, .int .i64 0] 34 (0, 0)) := by rw [← hVV]; exact block_setCell HYY.out 0 (.int .i64 9)
                    have hkV : Kp [] w V := by rw [← hVV]; exact hkY.setCell (p := ⟨b1, 0, none⟩) (.inr hwge1) _
                    have hkRV : Kp [] wr V := by rw [← hVV]; exact hkRY.setCell (p := ⟨b1, 0, none⟩) (.inr hge1) _
                    rw [hVV]
                    clear hVV HYY hkY hkRY v00 fV0
                    have v0 := cell_of_block hV 0
                    have v1 := cell_of_block hV 1
                    have v2 := cell_of_block hV 2
                    have v3 := cell_of_block hV 3
                    simp at v0 v1 v2 v3
                    have fV : ∀ o, V.frozen? ⟨b1, o, none⟩ = false := free_of_block hV
                    have lV := lt_of_block hV
                    have HV := Lib.hid hV; clear hV
                    have HKV := Lib.hid hkV
                    have HKRV := Lib.hid hkRV; clear hkV hkRV
                    refine (HPL.out V).mono ?_
                    rintro e w' ⟨rfl, rfl⟩
                    by_cases hl1 : 1 < l1
                    · have b5 : decide ((1 : Int) < l1) = true := decide_eq_true hl1
                      obtain rfl : co = c1 := by have h := SH.out.2; rwa [if_neg (by omega)] at h
                      obtain ⟨V2, hV2⟩ : ∃ V2, V2 = (V.setCell ⟨b1, 2, none⟩ (.int .i64 li)).setCell ⟨b1, 3, none⟩ (.int .i64 co) := ⟨_, rfl⟩
                      have hge : wr.heap.size ≤ b1 := by rw [← HB1.out]; exact HK22.out.size
                      have hwge : w.heap.size ≤ b1 := Nat.le_trans HKP.out.size hge
                      have hrow2 : V2.ownsRow w.heap.size 80 6 (.slice bo ps.length cap) ps.length (ps.flatMap cellsPc) := by
                        rw [hV2]
                        exact ownsRow_block HRW.out fun g hg hl => by
                          rw [Below.heap_setCell _ _ _ _ (by simp; omega), Below.heap_setCell _ _ _ _ (by simp; omega)]
                          exact HKRV.out.block g hl (by simp)
                      have HK2V : Hid (Kp [] w V2) := Lib.hid (by rw [hV2]; exact (HKV.out.setCell (p := ⟨b1, 2, none⟩) (.inr hwge) _).setCell (p := ⟨b1, 3, none⟩) (.inr hwge) _)
                      obtain ⟨i0, hi, hz0, hz1, hz2⟩ := info_parts info_rpiece
                      obtain ⟨x, hx⟩ : ∃ x : Lx.Pc, x = ⟨9, [46], li, co, t, q⟩ := ⟨_, rfl⟩
                      have hszV : V2.heap.size = V.heap.size := by rw [hV2]; simp
                      have hnew : ∀ j u, (cellsPc x)[j]? = some u → (V2.alloc (.cells #[.int .i64 9, .string ⟨#[46]⟩, .int .i64 li, .int .i64 co, .int .i64 (t : Int), .int .i64 (q : Int)] 80)).cell? ((⟨V.heap.size, 0, none⟩ : Addr).add j) = some u := by
                        intro j u hj
                        rw [← hszV]
                        have := cell_of_block (heap_alloc_new V2 (.cells #[.int .i64 9, .string ⟨#[46]⟩, .int .i64 li, .int .i64 co, .int .i64 (t : Int), .int .i64 (q : Int)] 80)) j
                        have ea : ((⟨V2.heap.size, 0, none⟩ : Addr).add j) = ⟨V2.heap.size, j, none⟩ := by
                          unfold Addr.add; simp only [Nat.zero_add]; split
                          · rename_i h; rw [h]
                          · rfl
                        rw [ea, this, ← hj, hx]
                        simp [cellsPc]
                      have hsz2 := HK2V.out.size
                      have HX := Lib.hid hx; clear hx
                      have HV2 := Lib.hid hV2; clear hV2
                      go_wp2_with (at_builtin; rw [← HV2.out]; go_loud (refine wpList_append_own _ rfl _ _ 76 rfl w.heap.size 80 i0 _ 6 56 Tryz.underlying76 hi hz0 hz1 hz2 rfl (by decide) _ _ _ rfl (hrow2.alloc _) ⟨V.heap.size, 0, none⟩ 1 1 (cellsPc x) rfl rfl hnew (by simp [cellsPc, Value.oneCell']) (by simp [maxLen]; omega) (by omega) (by have := hsz2; simp only [World.size_alloc]; omega) ?_; intro v' w3 hown' hgrow _))
                      go_roundg (s.size - q)
                      case measure => omega
                      case rel =>
                        refine ⟨ps ++ [x], q, f, li, co + m, (if 9 = 1 then ((q : Nat) : Int) else name), rfl, by simp, rfl, rfl, by omega, by omega, by simp; omega, HADM, ?_, ?_, ?_, ?_⟩
                        · rw [HX.out]; exact HNM2
                        · rw [HX.out, List.append_assoc, List.length_append, List.length_singleton]; exact HDI2
                        · exact (HK2V.out.alloc _).grown hgrow (fun j hj => .inr (by
                            rcases hrow2.2 with ⟨h1, _⟩ | ⟨g', cap', cur', h1, hb', _⟩
                            · injection h1 with e1 e2 e3; rw [e1] at hj; simp [go_sem, Value.ownBlock] at hj
                            · injection h1 with e1 e2 e3; rw [e1] at hj; simp [go_sem, Value.ownBlock] at hj; omega))
                        · rw [List.length_append, List.length_singleton, List.flatMap_append]; simpa using hown'
                    · have b5 : decide ((1 : Int) < l1) = false := decide_eq_false hl1
                      have z9 : IntKind.i64.wrap (c1 - 1) = c1 - 1 := Go.IntWalk.i64_in _ (by omega)
                      have z10 : col + (c1 - 1) = co := by have h := SH.out.2; rw [if_pos (by omega)] at h; omega
                      have z11 : IntKind.i64.wrap (col + (c1 - 1)) = co := by rw [z10]; exact Go.IntWalk.i64_in _ (by omega)
                      obtain ⟨V2, hV2⟩ : ∃ V2, V2 = (V.setCell ⟨b1, 2, none⟩ (.int .i64 li)).setCell ⟨b1, 3, none⟩ (.int .i64 co) := ⟨_, rfl⟩
                      have hge : wr.heap.size ≤ b1 := by rw [← HB1.out]; exact HK22.out.size
                      have hwge : w.heap.size ≤ b1 := Nat.le_trans HKP.out.size hge
                      have hrow2 : V2.ownsRow w.heap.size 80 6 (.slice bo ps.length cap) ps.length (ps.flatMap cellsPc) := by
                        rw [hV2]
                        exact ownsRow_block HRW.out fun g hg hl => by
                          rw [Below.heap_setCell _ _ _ _ (by simp; omega), Below.heap_setCell _ _ _ _ (by simp; omega)]
                          exact HKRV.out.block g hl (by simp)
                      have HK2V : Hid (Kp [] w V2) := Lib.hid (by rw [hV2]; exact (HKV.out.setCell (p := ⟨b1, 2, none⟩) (.inr hwge) _).setCell (p := ⟨b1, 3, none⟩) (.inr hwge) _)
                      obtain ⟨i0, hi, hz0, hz1, hz2⟩ := info_parts info_rpiece
                      obtain ⟨x, hx⟩ : ∃ x : Lx.Pc, x = ⟨9, [46], li, co, t, q⟩ := ⟨_, rfl⟩
                      have hszV : V2.heap.size = V.heap.size := by rw [hV2]; simp
                      have hnew : ∀ j u, (cellsPc x)[j]? = some u → (V2.alloc (.cells #[.int .i64 9, .string ⟨#[46]⟩, .int .i64 li, .int .i64 co, .int .i64 (t : Int), .int .i64 (q : Int)] 80)).cell? ((⟨V.heap.size, 0, none⟩ : Addr).add j) = some u := by
                        intro j u hj
                        rw [← hszV]
                        have := cell_of_block (heap_alloc_new V2 (.cells #[.int .i64 9, .string ⟨#[46]⟩, .int .i64 li, .int .i64 co, .int .i64 (t : Int), .int .i64 (q : Int)] 80)) j
                        have ea : ((⟨V2.heap.size, 0, none⟩ : Addr).add j) = ⟨V2.heap.size, j, none⟩ := by
                          unfold Addr.add; simp only [Nat.zero_add]; split
                          · rename_i h; rw [h]
                          · rfl
                        rw [ea, this, ← hj, hx]
                        simp [cellsPc]
                      have hsz2 := HK2V.out.size
                      have HX := Lib.hid hx; clear hx
                      have HV2 := Lib.hid hV2; clear hV2
                      go_wp2_with (at_builtin; rw [← HV2.out]; go_loud (refine wpList_append_own _ rfl _ _ 76 rfl w.heap.size 80 i0 _ 6 56 Tryz.underlying76 hi hz0 hz1 hz2 rfl (by decide) _ _ _ rfl (hrow2.alloc _) ⟨V.heap.size, 0, none⟩ 1 1 (cellsPc x) rfl rfl hnew (by simp [cellsPc, Value.oneCell']) (by simp [maxLen]; omega) (by omega) (by have := hsz2; simp only [World.size_alloc]; omega) ?_; intro v' w3 hown' hgrow _))
                      go_roundg (s.size - q)
                      case measure => omega
                      case rel =>
                        refine ⟨ps ++ [x], q, f, li, co + m, (if 9 = 1 then ((q : Nat) : Int) else name), rfl, by simp, rfl, rfl, by omega, by omega, by simp; omega, HADM, ?_, ?_, ?_, ?_⟩
                        · rw [HX.out]; exact HNM2
                        · rw [HX.out, List.append_assoc, List.length_append, List.length_singleton]; exact HDI2
                        · exact (HK2V.out.alloc _).grown hgrow (fun j hj => .inr (by
                            rcases hrow2.2 with ⟨h1, _⟩ | ⟨g', cap', cur', h1, hb', _⟩
                            · injection h1 with e1 e2 e3; rw [e1] at hj; simp [go_sem, Value.ownBlock] at hj
                            · injection h1 with e1 e2 e3; rw [e1] at hj; simp [go_sem, Value.ownBlock] at hj; omega))
                        · rw [List.length_append, List.length_singleton, List.flatMap_append]; simpa using hown'
                · have hkk2 : kk = 8 := by rw [hkk, if_neg (fun h => h46 h.2.1)]
                  clear hkk
                  subst hkk2
                  have HTOK := Lib.hid htok; clear htok
                  go_wp2_with fail
                  refine HPA.out.mono ?_
                  rintro e w' ⟨rfl, rfl⟩
                  go_wp2_with fail
                  refine (HFI.out wr).mono ?_
                  rintro e w2 ⟨rfl, hk2⟩
                  have HK2 := Lib.hid (HKP.out.trans hk2)
                  have HK22 := Lib.hid hk2; clear hk2
                  go_wp2_with fail
                  obtain ⟨V, hVV⟩ : ∃ V, w2.alloc (.cells #[.int .i64 8, .string ⟨tx.toArray⟩, .int .i64 0, .int .i64 0] 34) = V := ⟨_, rfl⟩
                  have hV := heap_alloc_new w2 (.cells #[.int .i64 8, .string ⟨tx.toArray⟩, .int .i64 0, .int .i64 0] 34)
                  have hkV := (HK2.out.alloc (.cells #[.int .i64 8, .string ⟨tx.toArray⟩, .int .i64 0, .int .i64 0] 34))
                  have hkRV := (HK22.out.alloc (.cells #[.int .i64 8, .string ⟨tx.toArray⟩, .int .i64 0, .int .i64 0] 34))
                  rw [hVV] at hV hkV hkRV ⊢
                  clear hVV
                  obtain ⟨b1, hb1⟩ : ∃ b1, w2.heap.size = b1 := ⟨_, rfl⟩
                  rw [hb1] at hV ⊢
                  have HB1 := Lib.hid hb1; clear hb1
                  have v0 := cell_of_block hV 0
                  have v1 := cell_of_block hV 1
                  have v2 := cell_of_block hV 2
                  have v3 := cell_of_block hV 3
                  simp at v0 v1 v2 v3
                  have fV : ∀ o, V.frozen? ⟨b1, o, none⟩ = false := free_of_block hV
                  have lV := lt_of_block hV
                  have HV := Lib.hid hV; clear hV
                  have HKV := Lib.hid hkV
                  have HKRV := Lib.hid hkRV; clear hkV hkRV
                  refine (HPL.out V).mono ?_
                  rintro e w' ⟨rfl, rfl⟩
                  by_cases hl1 : 1 < l1
                  · have b5 : decide ((1 : Int) < l1) = true := decide_eq_true hl1
                    obtain rfl : co = c1 := by have h := SH.out.2; rwa [if_neg (by omega)] at h
                    obtain ⟨V2, hV2⟩ : ∃ V2, V2 = (V.setCell ⟨b1, 2, none⟩ (.int .i64 li)).setCell ⟨b1, 3, none⟩ (.int .i64 co) := ⟨_, rfl⟩
                    have hge : wr.heap.size ≤ b1 := by rw [← HB1.out]; exact HK22.out.size
                    have hwge : w.heap.size ≤ b1 := Nat.le_trans HKP.out.size hge
                    have hrow2 : V2.ownsRow w.heap.size 80 6 (.slice bo ps.length cap) ps.length (ps.flatMap cellsPc) := by
                      rw [hV2]
                      exact ownsRow_block HRW.out fun g hg hl => by
                        rw [Below.heap_setCell _ _ _ _ (by simp; omega), Below.heap_setCell _ _ _ _ (by simp; omega)]
                        exact HKRV.out.block g hl (by simp)
                    have HK2V : Hid (Kp [] w V2) := Lib.hid (by rw [hV2]; exact (HKV.out.setCell (p := ⟨b1, 2, none⟩) (.inr hwge) _).setCell (p := ⟨b1, 3, none⟩) (.inr hwge) _)
                    obtain ⟨i0, hi, hz0, hz1, hz2⟩ := info_parts info_rpiece
                    obtain ⟨x, hx⟩ : ∃ x : Lx.Pc, x = ⟨8, tx, li, co, t, q⟩ := ⟨_, rfl⟩
                    have hszV : V2.heap.size = V.heap.size := by rw [hV2]; simp
                    have hnew : ∀ j u, (cellsPc x)[j]? = some u → (V2.alloc (.cells #[.int .i64 8, .string ⟨tx.toArray⟩, .int .i64 li, .int .i64 co, .int .i64 (t : Int), .int .i64 (q : Int)] 80)).cell? ((⟨V.heap.size, 0, none⟩ : Addr).add j) = some u := by
                      intro j u hj
                      rw [← hszV]
                      have := cell_of_block (heap_alloc_new V2 (.cells #[.int .i64 8, .string ⟨tx.toArray⟩, .int .i64 li, .int .i64 co, .int .i64 (t : Int), .int .i64 (q : Int)] 80)) j
                      have ea : ((⟨V2.heap.size, 0, none⟩ : Addr).add j) = ⟨V2.heap.size, j, none⟩ := by
                        unfold Addr.add; simp only [Nat.zero_add]; split
                        · rename_i h; rw [h]
                        · rfl
                      rw [ea, this, ← hj, hx]
                      simp [cellsPc]
                    have hsz2 := HK2V.out.size
                    have HX := Lib.hid hx; clear hx
                    have HV2 := Lib.hid hV2; clear hV2
                    go_wp2_with (at_builtin; rw [← HV2.out]; go_loud (refine wpList_append_own _ rfl _ _ 76 rfl w.heap.size 80 i0 _ 6 56 Tryz.underlying76 hi hz0 hz1 hz2 rfl (by decide) _ _ _ rfl (hrow2.alloc _) ⟨V.heap.size, 0, none⟩ 1 1 (cellsPc x) rfl rfl hnew (by simp [cellsPc, Value.oneCell']) (by simp [maxLen]; omega) (by omega) (by have := hsz2; simp only [World.size_alloc]; omega) ?_; intro v' w3 hown' hgrow _))
                    go_roundg (s.size - q)
                    case measure => omega
                    case rel =>
                      refine ⟨ps ++ [x], q, f, li, co + m, (if 8 = 1 then ((q : Nat) : Int) else name), rfl, by simp, rfl, rfl, by omega, by omega, by simp; omega, HADM, ?_, ?_, ?_, ?_⟩
                      · rw [HX.out]; exact HNM2
                      · rw [HX.out, List.append_assoc, List.length_append, List.length_singleton]; exact HDI2
                      · exact (HK2V.out.alloc _).grown hgrow (fun j hj => .inr (by
                          rcases hrow2.2 with ⟨h1, _⟩ | ⟨g', cap', cur', h1, hb', _⟩
                          · injection h1 with e1 e2 e3; rw [e1] at hj; simp [go_sem, Value.ownBlock] at hj
                          · injection h1 with e1 e2 e3; rw [e1] at hj; simp [go_sem, Value.ownBlock] at hj; omega))
                      · rw [List.length_append, List.length_singleton, List.flatMap_append]; simpa using hown'
                  · have b5 : decide ((1 : Int) < l1) = false := decide_eq_false hl1
                    have z9 : IntKind.i64.wrap (c1 - 1) = c1 - 1 := Go.IntWalk.i64_in _ (by omega)
                    have z10 : col + (c1 - 1) = co := by have h := SH.out.2; rw [if_pos (by omega)] at h; omega
                    have z11 : IntKind.i64.wrap (col + (c1 - 1)) = co := by rw [z10]; exact Go.IntWalk.i64_in _ (by omega)
                    obtain ⟨V2, hV2⟩ : ∃ V2, V2 = (V.setCell ⟨b1, 2, none⟩ (.int .i64 li)).setCell ⟨b1, 3, none⟩ (.int .i64 co) := ⟨_, rfl⟩
                    have hge : wr.heap.size ≤ b1 := by rw [← HB1.out]; exact HK22.out.size
                    have hwge : w.heap.size ≤ b1 := Nat.le_trans HKP.out.size hge
                    have hrow2 : V2.ownsRow w.heap.size 80 6 (.slice bo ps.length cap) ps.length (ps.flatMap cellsPc) := by
                      rw [hV2]
                      exact ownsRow_block HRW.out fun g hg hl => by
                        rw [Below.heap_setCell _ _ _ _ (by simp; omega), Below.heap_setCell _ _ _ _ (by simp; omega)]
                        exact HKRV.out.block g hl (by simp)
                    have HK2V : Hid (Kp [] w V2) := Lib.hid (by rw [hV2]; exact (HKV.out.setCell (p := ⟨b1, 2, none⟩) (.inr hwge) _).setCell (p := ⟨b1, 3, none⟩) (.inr hwge) _)
                    obtain ⟨i0, hi, hz0, hz1, hz2⟩ := info_parts info_rpiece
                    obtain ⟨x, hx⟩ : ∃ x : Lx.Pc, x = ⟨8, tx, li, co, t, q⟩ := ⟨_, rfl⟩
                    have hszV : V2.heap.size = V.heap.size := by rw [hV2]; simp
                    have hnew : ∀ j u, (cellsPc x)[j]? = some u → (V2.alloc (.cells #[.int .i64 8, .string ⟨tx.toArray⟩, .int .i64 li, .int .i64 co, .int .i64 (t : Int), .int .i64 (q : Int)] 80)).cell? ((⟨V.heap.size, 0, none⟩ : Addr).add j) = some u := by
                      intro j u hj
                      rw [← hszV]
                      have := cell_of_block (heap_alloc_new V2 (.cells #[.int .i64 8, .string ⟨tx.toArray⟩, .int .i64 li, .int .i64 co, .int .i64 (t : Int), .int .i64 (q : Int)] 80)) j
                      have ea : ((⟨V2.heap.size, 0, none⟩ : Addr).add j) = ⟨V2.heap.size, j, none⟩ := by
                        unfold Addr.add; simp only [Nat.zero_add]; split
                        · rename_i h; rw [h]
                        · rfl
                      rw [ea, this, ← hj, hx]
                      simp [cellsPc]
                    have hsz2 := HK2V.out.size
                    have HX := Lib.hid hx; clear hx
                    have HV2 := Lib.hid hV2; clear hV2
                    go_wp2_with (at_builtin; rw [← HV2.out]; go_loud (refine wpList_append_own _ rfl _ _ 76 rfl w.heap.size 80 i0 _ 6 56 Tryz.underlying76 hi hz0 hz1 hz2 rfl (by decide) _ _ _ rfl (hrow2.alloc _) ⟨V.heap.size, 0, none⟩ 1 1 (cellsPc x) rfl rfl hnew (by simp [cellsPc, Value.oneCell']) (by simp [maxLen]; omega) (by omega) (by have := hsz2; simp only [World.size_alloc]; omega) ?_; intro v' w3 hown' hgrow _))
                    go_roundg (s.size - q)
                    case measure => omega
                    case rel =>
                      refine ⟨ps ++ [x], q, f, li, co + m, (if 8 = 1 then ((q : Nat) : Int) else name), rfl, by simp, rfl, rfl, by omega, by omega, by simp; omega, HADM, ?_, ?_, ?_, ?_⟩
                      · rw [HX.out]; exact HNM2
                      · rw [HX.out, List.append_assoc, List.length_append, List.length_singleton]; exact HDI2
                      · exact (HK2V.out.alloc _).grown hgrow (fun j hj => .inr (by
                          rcases hrow2.2 with ⟨h1, _⟩ | ⟨g', cap', cur', h1, hb', _⟩
                          · injection h1 with e1 e2 e3; rw [e1] at hj; simp [go_sem, Value.ownBlock] at hj
                          · injection h1 with e1 e2 e3; rw [e1] at hj; simp [go_sem, Value.ownBlock] at hj; omega))
                      · rw [List.length_append, List.length_singleton, List.flatMap_append]; simpa using hown'
              · have q8 : (k == 8) = false := by simpa using h8
                have hkk2 : kk = k := by rw [hkk, if_neg (fun h => h8 h.1)]
                clear hkk h8
                subst hkk2
                have HTOK := Lib.hid htok; clear htok
                go_wp2_with fail
                refine HPA.out.mono ?_
                rintro e w' ⟨rfl, rfl⟩
                go_wp2_with fail
                refine (HFI.out wr).mono ?_
                rintro e w2 ⟨rfl, hk2⟩
                have HK2 := Lib.hid (HKP.out.trans hk2)
                have HK22 := Lib.hid hk2; clear hk2
                go_wp2_with fail
                obtain ⟨V, hVV⟩ : ∃ V, w2.alloc (.cells #[.int .i64 kk, .string ⟨tx.toArray⟩, .int .i64 0, .int .i64 0] 34) = V := ⟨_, rfl⟩
                have hV := heap_alloc_new w2 (.cells #[.int .i64 kk, .string ⟨tx.toArray⟩, .int .i64 0, .int .i64 0] 34)
                have hkV := (HK2.out.alloc (.cells #[.int .i64 kk, .string ⟨tx.toArray⟩, .int .i64 0, .int .i64 0] 34))
                have hkRV := (HK22.out.alloc (.cells #[.int .i64 kk, .string ⟨tx.toArray⟩, .int .i64 0, .int .i64 0] 34))
                rw [hVV] at hV hkV hkRV ⊢
                clear hVV
                obtain ⟨b1, hb1⟩ : ∃ b1, w2.heap.size = b1 := ⟨_, rfl⟩
                rw [hb1] at hV ⊢
                have HB1 := Lib.hid hb1; clear hb1
                have v0 := cell_of_block hV 0
                have v1 := cell_of_block hV 1
                have v2 := cell_of_block hV 2
                have v3 := cell_of_block hV 3
                simp at v0 v1 v2 v3
                have fV : ∀ o, V.frozen? ⟨b1, o, none⟩ = false := free_of_block hV
                have lV := lt_of_block hV
                have HV := Lib.hid hV; clear hV
                have HKV := Lib.hid hkV
                have HKRV := Lib.hid hkRV; clear hkV hkRV
                refine (HPL.out V).mono ?_
                rintro e w' ⟨rfl, rfl⟩
                by_cases hl1 : 1 < l1
                · have b5 : decide ((1 : Int) < l1) = true := decide_eq_true hl1
                  obtain rfl : co = c1 := by have h := SH.out.2; rwa [if_neg (by omega)] at h
                  obtain ⟨V2, hV2⟩ : ∃ V2, V2 = (V.setCell ⟨b1, 2, none⟩ (.int .i64 li)).setCell ⟨b1, 3, none⟩ (.int .i64 co) := ⟨_, rfl⟩
                  have hge : wr.heap.size ≤ b1 := by rw [← HB1.out]; exact HK22.out.size
                  have hwge : w.heap.size ≤ b1 := Nat.le_trans HKP.out.size hge
                  have hrow2 : V2.ownsRow w.heap.size 80 6 (.slice bo ps.length cap) ps.length (ps.flatMap cellsPc) := by
                    rw [hV2]
                    exact ownsRow_block HRW.out fun g hg hl => by
                      rw [Below.heap_setCell _ _ _ _ (by simp; omega), Below.heap_setCell _ _ _ _ (by simp; omega)]
                      exact HKRV.out.block g hl (by simp)
                  have HK2V : Hid (Kp [] w V2) := Lib.hid (by rw [hV2]; exact (HKV.out.setCell (p := ⟨b1, 2, none⟩) (.inr hwge) _).setCell (p := ⟨b1, 3, none⟩) (.inr hwge) _)
                  obtain ⟨i0, hi, hz0, hz1, hz2⟩ := info_parts info_rpiece
                  obtain ⟨x, hx⟩ : ∃ x : Lx.Pc, x = ⟨kk, tx, li, co, t, q⟩ := ⟨_, rfl⟩
                  have hszV : V2.heap.size = V.heap.size := by rw [hV2]; simp
                  have hnew : ∀ j u, (cellsPc x)[j]? = some u → (V2.alloc (.cells #[.int .i64 kk, .string ⟨tx.toArray⟩, .int .i64 li, .int .i64 co, .int .i64 (t : Int), .int .i64 (q : Int)] 80)).cell? ((⟨V.heap.size, 0, none⟩ : Addr).add j) = some u := by
                    intro j u hj
                    rw [← hszV]
                    have := cell_of_block (heap_alloc_new V2 (.cells #[.int .i64 kk, .string ⟨tx.toArray⟩, .int .i64 li, .int .i64 co, .int .i64 (t : Int), .int .i64 (q : Int)] 80)) j
                    have ea : ((⟨V2.heap.size, 0, none⟩ : Addr).add j) = ⟨V2.heap.size, j, none⟩ := by
                      unfold Addr.add; simp only [Nat.zero_add]; split
                      · rename_i h; rw [h]
                      · rfl
                    rw [ea, this, ← hj, hx]
                    simp [cellsPc]
                  have hsz2 := HK2V.out.size
                  have HX := Lib.hid hx; clear hx
                  have HV2 := Lib.hid hV2; clear hV2
                  go_wp2_with (at_builtin; rw [← HV2.out]; go_loud (refine wpList_append_own _ rfl _ _ 76 rfl w.heap.size 80 i0 _ 6 56 Tryz.underlying76 hi hz0 hz1 hz2 rfl (by decide) _ _ _ rfl (hrow2.alloc _) ⟨V.heap.size, 0, none⟩ 1 1 (cellsPc x) rfl rfl hnew (by simp [cellsPc, Value.oneCell']) (by simp [maxLen]; omega) (by omega) (by have := hsz2; simp only [World.size_alloc]; omega) ?_; intro v' w3 hown' hgrow _))
                  go_roundg (s.size - q)
                  case measure => omega
                  case rel =>
                    refine ⟨ps ++ [x], q, f, li, co + m, (if kk = 1 then ((q : Nat) : Int) else name), rfl, by simp, rfl, rfl, by omega, by omega, by simp; omega, HADM, ?_, ?_, ?_, ?_⟩
                    · rw [HX.out]; exact HNM2
                    · rw [HX.out, List.append_assoc, List.length_append, List.length_singleton]; exact HDI2
                    · exact (HK2V.out.alloc _).grown hgrow (fun j hj => .inr (by
                        rcases hrow2.2 with ⟨h1, _⟩ | ⟨g', cap', cur', h1, hb', _⟩
                        · injection h1 with e1 e2 e3; rw [e1] at hj; simp [go_sem, Value.ownBlock] at hj
                        · injection h1 with e1 e2 e3; rw [e1] at hj; simp [go_sem, Value.ownBlock] at hj; omega))
                    · rw [List.length_append, List.length_singleton, List.flatMap_append]; simpa using hown'
                · have b5 : decide ((1 : Int) < l1) = false := decide_eq_false hl1
                  have z9 : IntKind.i64.wrap (c1 - 1) = c1 - 1 := Go.IntWalk.i64_in _ (by omega)
                  have z10 : col + (c1 - 1) = co := by have h := SH.out.2; rw [if_pos (by omega)] at h; omega
                  have z11 : IntKind.i64.wrap (col + (c1 - 1)) = co := by rw [z10]; exact Go.IntWalk.i64_in _ (by omega)
                  obtain ⟨V2, hV2⟩ : ∃ V2, V2 = (V.setCell ⟨b1, 2, none⟩ (.int .i64 li)).setCell ⟨b1, 3, none⟩ (.int .i64 co) := ⟨_, rfl⟩
                  have hge : wr.heap.size ≤ b1 := by rw [← HB1.out]; exact HK22.out.size
                  have hwge : w.heap.size ≤ b1 := Nat.le_trans HKP.out.size hge
                  have hrow2 : V2.ownsRow w.heap.size 80 6 (.slice bo ps.length cap) ps.length (ps.flatMap cellsPc) := by
                    rw [hV2]
                    exact ownsRow_block HRW.out fun g hg hl => by
                      rw [Below.heap_setCell _ _ _ _ (by simp; omega), Below.heap_setCell _ _ _ _ (by simp; omega)]
                      exact HKRV.out.block g hl (by simp)
                  have HK2V : Hid (Kp [] w V2) := Lib.hid (by rw [hV2]; exact (HKV.out.setCell (p := ⟨b1, 2, none⟩) (.inr hwge) _).setCell (p := ⟨b1, 3, none⟩) (.inr hwge) _)
                  obtain ⟨i0, hi, hz0, hz1, hz2⟩ := info_parts info_rpiece
                  obtain ⟨x, hx⟩ : ∃ x : Lx.Pc, x = ⟨kk, tx, li, co, t, q⟩ := ⟨_, rfl⟩
                  have hszV : V2.heap.size = V.heap.size := by rw [hV2]; simp
                  have hnew : ∀ j u, (cellsPc x)[j]? = some u → (V2.alloc (.cells #[.int .i64 kk, .string ⟨tx.toArray⟩, .int .i64 li, .int .i64 co, .int .i64 (t : Int), .int .i64 (q : Int)] 80)).cell? ((⟨V.heap.size, 0, none⟩ : Addr).add j) = some u := by
                    intro j u hj
                    rw [← hszV]
                    have := cell_of_block (heap_alloc_new V2 (.cells #[.int .i64 kk, .string ⟨tx.toArray⟩, .int .i64 li, .int .i64 co, .int .i64 (t : Int), .int .i64 (q : Int)] 80)) j
                    have ea : ((⟨V2.heap.size, 0, none⟩ : Addr).add j) = ⟨V2.heap.size, j, none⟩ := by
                      unfold Addr.add; simp only [Nat.zero_add]; split
                      · rename_i h; rw [h]
                      · rfl
                    rw [ea, this, ← hj, hx]
                    simp [cellsPc]
                  have hsz2 := HK2V.out.size
                  have HX := Lib.hid hx; clear hx
                  have HV2 := Lib.hid hV2; clear hV2
                  go_wp2_with (at_builtin; rw [← HV2.out]; go_loud (refine wpList_append_own _ rfl _ _ 76 rfl w.heap.size 80 i0 _ 6 56 Tryz.underlying76 hi hz0 hz1 hz2 rfl (by decide) _ _ _ rfl (hrow2.alloc _) ⟨V.heap.size, 0, none⟩ 1 1 (cellsPc x) rfl rfl hnew (by simp [cellsPc, Value.oneCell']) (by simp [maxLen]; omega) (by omega) (by have := hsz2; simp only [World.size_alloc]; omega) ?_; intro v' w3 hown' hgrow _))
                  go_roundg (s.size - q)
                  case measure => omega
                  case rel =>
                    refine ⟨ps ++ [x], q, f, li, co + m, (if kk = 1 then ((q : Nat) : Int) else name), rfl, by simp, rfl, rfl, by omega, by omega, by simp; omega, HADM, ?_, ?_, ?_, ?_⟩
                    · rw [HX.out]; exact HNM2
                    · rw [HX.out, List.append_assoc, List.length_append, List.length_singleton]; exact HDI2
                    · exact (HK2V.out.alloc _).grown hgrow (fun j hj => .inr (by
                        rcases hrow2.2 with ⟨h1, _⟩ | ⟨g', cap', cur', h1, hb', _⟩
                        · injection h1 with e1 e2 e3; rw [e1] at hj; simp [go_sem, Value.ownBlock] at hj
                        · injection h1 with e1 e2 e3; rw [e1] at hj; simp [go_sem, Value.ownBlock] at hj; omega))
                    · rw [List.length_append, List.length_singleton, List.flatMap_append]; simpa using hown'

end Go.Proofs.YtogmealngeejmaaGreatDoor
