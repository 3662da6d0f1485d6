import Derived.Test.YtogmealngeejmaaGreatDoorJoined7
import Derived.Test.YtogmealngeejmaaGreatDoorJoined8
/- The lexer: the iterator over a text's tokens. -/
namespace Go.Proofs.YtogmealngeejmaaGreatDoor
open Go Go.RowKit

def encPc (x : Lx.Pc) : Value := .agg #[.int .i64 x.kind, .string ⟨x.text.toArray⟩, .int .i64 x.line, .int .i64 x.col, .int .i64 x.frm, .int .i64 x.to]

def stopAt (er : Int) (a : Nat) : Ending := .panicked [{ v := .iface 100 (.agg #[.int .i64 er, .int .i64 a]), recovered := false }]

/-- What the iterator comes to: the loop's invariant at what has come; it has returned, or has panicked. -/
def ItPost (J : List Lx.Pc → World → Prop) (res : List Lx.Pc × Option (Int × Nat)) (e : Ending) (W' : World) : Prop :=
  ∃ pre, J pre W' ∧ match res.2 with
    | none => pre = res.1 ∧ e = .returned (.tuple #[])
    | some (er, a) => e = stopAt er a

/-- What a round keeps of the iterator's own blocks. -/
def RoundKeeps (tb b0 : Nat) (W W' : World) : Prop := W.heap.size ≤ W'.heap.size ∧ ∀ k, (k = tb ∨ (b0 ≤ k ∧ k < b0 + 3)) → W'.heap[k]? = W.heap[k]?

/-- The iterator's own blocks, but for the reader. -/
structure ItOwn (t : ByteArray) (tb b0 : Nat) (W : World) : Prop where
  ptr : W.heap[b0 + 1]? = some (.cells #[.pointer (some ⟨b0, 0, none⟩)] 85 (0, 0))
  cls : W.heap[b0 + 2]? = some (.cells clsCells 118 (0, 0))
  text : W.heap[tb]? = some (.cells #[.string t] 9 (0, 0))
  size : b0 + 3 ≤ W.heap.size

theorem ItOwn.keep {t : ByteArray} {tb b0 : Nat} {W W' : World} {S : List Nat} (h : ItOwn t tb b0 W) (k : Kp S W W') (h1 : b0 + 1 ∉ S) (h2 : b0 + 2 ∉ S) (h3 : tb ∉ S) : ItOwn t tb b0 W' :=
  ⟨k.heap h.ptr h1, k.heap h.cls h2, k.heap h.text h3, Nat.le_trans h.size k.size⟩
theorem ItOwn.round {t : ByteArray} {tb b0 : Nat} {W W' : World} (h : ItOwn t tb b0 W) (k : RoundKeeps tb b0 W W') : ItOwn t tb b0 W' :=
  ⟨(k.2 _ (.inr ⟨by omega, by omega⟩)).trans h.ptr, (k.2 _ (.inr ⟨by omega, by omega⟩)).trans h.cls, (k.2 _ (.inl rfl)).trans h.text, Nat.le_trans h.size k.1⟩
theorem ItOwn.facts {t : ByteArray} {tb b0 : Nat} {W : World} (h : ItOwn t tb b0 W) : W.cell? ⟨b0 + 1, 0, none⟩ = some (.pointer (some ⟨b0, 0, none⟩)) ∧ W.cell? ⟨tb, 0, none⟩ = some (.string t) := ⟨cell_of_block h.ptr 0, cell_of_block h.text 0⟩
theorem RdL.round {t : ByteArray} {tb b0 : Nat} {W W' : World} {a : Nat} {l : Lx.Bs} {line col name : Int} (h : RdL W b0 t a l line col name) (k : RoundKeeps tb b0 W W') : RdL W' b0 t a l line col name :=
  ⟨(k.2 _ (.inr ⟨by omega, by omega⟩)).trans h.rdr, h.left, h.le, h.size, h.line0, h.line1, h.col0, h.col1⟩

/-- What holds at each round's head: how many tokens have come; what is still to come, with f rounds at most. -/
def ItRel (t : ByteArray) (tb b0 : Nat) (J : List Lx.Pc → World → Prop) (f many : Nat) (W : World) : Prop :=
  ∃ (a : Nat) (l : Lx.Bs) (line col name : Int) (pre : List Lx.Pc), l.length < f ∧ many = pre.length ∧
    Lx.divide t.data.toList = (pre ++ (Lx.divs f a l line col name many).1, (Lx.divs f a l line col name many).2) ∧ RdL W b0 t a l line col name ∧ ItOwn t tb b0 W ∧ J pre W

theorem divs_succ (f a : Nat) (l : Lx.Bs) (line col name : Int) (many : Nat) : Lx.divs (f + 1) a l line col name many =
    match Lx.pas 0 none l with
    | .open n => ([], some (11, a + n))
    | .at n =>
      if l.drop n = [] then ([], none)
      else match Lx.tok (Lx.joined (a + n) name) (l.drop n) with
        | .bad e => ([], some (e, a + n))
        | .good k tx m =>
          if many < 6000 then
            ((⟨k, tx, (Lx.adv (l.take n) (line, col)).1, (Lx.adv (l.take n) (line, col)).2, a + n, a + n + m⟩ : Lx.Pc) ::
              (Lx.divs f (a + n + m) ((l.drop n).drop m) (Lx.adv ((l.drop n).take m) (Lx.adv (l.take n) (line, col))).1 (Lx.adv ((l.drop n).take m) (Lx.adv (l.take n) (line, col))).2 (if k = 1 then ((a + n + m : Nat) : Int) else name) (many + 1)).1,
             (Lx.divs f (a + n + m) ((l.drop n).drop m) (Lx.adv ((l.drop n).take m) (Lx.adv (l.take n) (line, col))).1 (Lx.adv ((l.drop n).take m) (Lx.adv (l.take n) (line, col))).2 (if k = 1 then ((a + n + m : Nat) : Int) else name) (many + 1)).2)
          else ([], some (2, a + n)) := rfl

set_option maxRecDepth 100000 in
set_option maxHeartbeats 2000000 in
theorem pieces1_c (t : ByteArray) (tb : Nat) (w : World) (ht : w.heap[tb]? = some (.cells #[.string t] 9 (0, 0))) (hsz : t.size ≤ 1100000) (lo : Nat) (J : List Lx.Pc → World → Prop)
    (h0 : ∀ W, Kp [] w W → J [] W) (hk : ∀ pre W W', J pre W → w.heap.size + 3 ≤ W.heap.size → Kp [w.heap.size] W W' → J pre W')
    (hY : ∀ pre x W, J pre W → w.heap.size + 3 ≤ W.heap.size → pre.length < 6000 → YieldAt Fence.wide 0 Tryz.prog lo #[encPc x] W fun e W' => e = .returned (.bool true) ∧ J (pre ++ [x]) W' ∧ RoundKeeps tb w.heap.size W W') :
    Calls Tryz.prog 81 #[.func (.yield lo) #[] #[], .pointer (some ⟨tb, 0, none⟩)] w (ItPost J (Lx.divide t.data.toList)) := by
  have htb := lt_of_block ht
  have f0 : w.cell? ⟨tb, 0, none⟩ = some (.string t) := cell_of_block ht 0
  obtain ⟨P0, hP0⟩ : ∃ P0, P0 = ItPost J (Lx.divide t.data.toList) := ⟨_, rfl⟩
  rw [← hP0]
  have HP0 := Lib.hid hP0; clear hP0
  have H0 := Lib.hid h0; clear h0
  have HK := Lib.hid hk; clear hk
  have HY := Lib.hid hY; clear hY
  have HT := Lib.hid ht; clear ht
  have hlen := size_list t
  have HLEN := Lib.hid hlen; clear hlen
  go_enter Tryz.func81, Tryz.ntmps81
  cases hq : decide (t.size ≤ 20000)
  · have hq' : decide ((t.size : Int) ≤ 20000) = false := by rw [← hq]; exact decide_eq_decide.2 (by omega)
    go_wp2_with fail
    refine (need_no 2 0 _).mono ?_
    rintro e w1 ⟨rfl, rfl⟩
    go_wp2
    refine ⟨rfl, ?_⟩
    rw [HP0.out]
    refine ⟨[], H0.out w (Kp.refl _ _), ?_⟩
    unfold Lx.divide
    rw [if_neg (by rw [HLEN.out]; simpa using hq)]
    rfl
  · have hq' : decide ((t.size : Int) ≤ 20000) = true := by rw [← hq]; exact decide_eq_decide.2 (by omega)
    go_wp2_with fail
    refine (need_yes 2 0 _).mono ?_
    rintro e w1 ⟨rfl, rfl⟩
    go_wp2_with fail
    refine (classes_c _).mono ?_
    rintro e w1 ⟨rfl, rfl⟩
    have htb' : tb ≠ w.heap.size := by omega
    obtain ⟨W0, hW0⟩ : ∃ W0, W0 = ((w.alloc (.cells #[.int .i64 0, .int .i64 1, .int .i64 1, .string t, .int .i64 0] 89)).alloc (.cells #[.pointer (some ⟨w.heap.size, 0, none⟩)] 85)).alloc (.cells clsCells 118) := ⟨_, rfl⟩
    have hK0 : Kp [] w W0 := by rw [hW0]; exact (((Kp.refl [] w).alloc _).alloc _).alloc _
    have hR0 : RdL W0 w.heap.size t 0 t.data.toList 1 1 0 := by
      refine ⟨?_, by simp, Nat.zero_le _, hsz, by omega, by simp, by omega, by simp⟩
      rw [hW0]; exact block_alloc (block_alloc (heap_alloc_new w _) _) _
    have hO0 : ItOwn t tb w.heap.size W0 := by
      refine ⟨?_, ?_, hK0.heap HT.out (by simp), ?_⟩
      · rw [hW0]; refine block_alloc ?_ _
        have := heap_alloc_new (w.alloc (.cells #[.int .i64 0, .int .i64 1, .int .i64 1, .string t, .int .i64 0] 89)) (.cells #[.pointer (some ⟨w.heap.size, 0, none⟩)] 85)
        rwa [World.size_alloc] at this
      · rw [hW0]
        have := heap_alloc_new ((w.alloc (.cells #[.int .i64 0, .int .i64 1, .int .i64 1, .string t, .int .i64 0] 89)).alloc (.cells #[.pointer (some ⟨w.heap.size, 0, none⟩)] 85)) (.cells clsCells 118)
        rwa [World.size_alloc, World.size_alloc] at this
      · rw [hW0]; simp
    have hJ0 : J [] W0 := H0.out W0 hK0
    have HO0 := Lib.hid hO0; clear hO0
    have HJ0 := Lib.hid hJ0; clear hJ0
    have hdiv : Lx.divide t.data.toList = Lx.divs (t.data.toList.length + 1) 0 t.data.toList 1 1 0 0 := by
      unfold Lx.divide; rw [if_pos (by rw [HLEN.out]; simpa using hq)]
    have HD := Lib.hid hdiv; clear hdiv
    obtain ⟨b0, hb0⟩ : ∃ b0, b0 = w.heap.size := ⟨_, rfl⟩
    rw [← hb0] at htb' hR0
    have HW0 := Lib.hid hW0; clear hW0
    have HB0 := Lib.hid hb0
    go_wp2_with fail
    rw [← HW0.out, ← HB0.out]
    have hO0 := HO0.out; rw [← HB0.out] at hO0
    have HO1 := Lib.hid hO0; clear hO0 HO0
    have hk := HK.out; rw [← HB0.out] at hk
    have HK1 := Lib.hid hk; clear hk HK
    have hY := HY.out; rw [← HB0.out] at hY
    have HY1 := Lib.hid hY; clear hY HY
    clear hb0
    have hmf : ∀ (fn : Fn) (first cap : Array Value) (w : World), (Instr.makeFunc fn first cap).run Tryz.prog w = .ok (.func fn first cap) w := fun _ _ _ _ => rfl
    go_loopg [5] (t.size + 1) (fun g x wr => ∃ k : Nat, x = .int .i64 k ∧ k ≤ 6000 ∧ ItRel t tb b0 J g k wr)
    case atStart =>
      refine ⟨0, rfl, by omega, 0, t.data.toList, 1, 1, 0, [], by rw [HLEN.out]; omega, rfl, ?_, hR0, HO1.out, HJ0.out⟩
      rw [HD.out, HLEN.out]; rfl
    case round =>
      obtain ⟨k, rfl, hk6, a, l, line, col, name, pre, hlf, hkp, hdv, hR, hO, hJ⟩ := hrel
      obtain ⟨f, rfl⟩ : ∃ f, gk = f + 1 := ⟨gk - 1, by omega⟩
      rw [divs_succ] at hdv
      obtain ⟨fp, ft⟩ := hO.facts
      have HJ := Lib.hid hJ; clear hJ
      have HO := Lib.hid hO; clear hO
      have HDV := Lib.hid hdv; clear hdv
      have HKP := Lib.hid hkp; clear hkp
      go_wp2_with fail
      refine (pass_c hR).mono ?_
      rintro e w1 ⟨hk1, hp⟩
      have HO2 := Lib.hid (HO.out.keep hk1 (by simp) (by simp) (by simpa using htb'))
      have HJ2 := Lib.hid (HK1.out pre _ _ HJ.out HO.out.size hk1)
      have hdv := HDV.out
      cases hpas : Lx.pas 0 none l with
      | «open» n =>
        rw [hpas] at hp hdv
        simp only at hp hdv
        subst hp
        go_wp2
        refine ⟨rfl, ?_⟩
        rw [HP0.out]
        refine ⟨pre, HJ2.out, ?_⟩
        rw [hdv]
        rfl
      | «at» n =>
        rw [hpas] at hp hdv
        simp only at hp hdv
        obtain ⟨rfl, hC⟩ := hp
        have hR1 := hC.rd
        obtain ⟨p1, hp1⟩ : ∃ p1, p1 = Lx.adv (l.take n) (line, col) := ⟨_, rfl⟩
        obtain ⟨l1, hl1⟩ : ∃ l1, l1 = l.drop n := ⟨_, rfl⟩
        obtain ⟨a1, ha1⟩ : ∃ a1, a1 = a + n := ⟨_, rfl⟩
        have hl1f : l1.length ≤ f := by rw [hl1, List.length_drop]; omega
        rw [← hp1, ← hl1, ← ha1] at hR1 hdv
        clear hp1 hl1 ha1 hC hR fp ft
        have HDV2 := Lib.hid hdv; clear hdv HDV
        obtain ⟨f0, f1, f2, f3, f4, fz, hlt6⟩ := hR1.rdr.facts
        obtain ⟨fp, ft⟩ := HO2.out.facts
        have hlen1 := hR1.length
        have HLEN1 := Lib.hid hlen1; clear hlen1
        have hle1 := hR1.le
        cases l1 with
        | nil =>
          have hat : a1 = t.size := by simpa using HLEN1.out
          subst hat
          go_wp2_with fail
          go_quiet (fail)
          go_wp2
          refine bodyPost_ret (results_none rfl _ _ _) rfl ?_
          rw [HP0.out]
          refine ⟨pre, HK1.out pre _ _ HJ2.out HO2.out.size ((Kp.refl _ _).drewN _), ?_⟩
          rw [HDV2.out]
          simp
        | cons b1 l1' =>
          have hne : a1 < t.size := by have := HLEN1.out; simp at this; omega
          obtain ⟨l1, hl1⟩ : ∃ l1, l1 = b1 :: l1' := ⟨_, rfl⟩
          have hl10 : l1 ≠ [] := by rw [hl1]; simp
          rw [← hl1] at hR1 hl1f
          have hdv := HDV2.out
          rw [← hl1, if_neg hl10] at hdv
          have HDV3 := Lib.hid hdv; clear hdv HDV2 HLEN1 hl1 b1 l1'
          go_wp2_with fail
          go_quiet (fail)
          go_wp2_with fail
          refine (indexCls_c (hR1.drew nq) (b0 + 1) (b0 + 1 + 1) fp HO2.out.cls).mono ?_
          rintro e w2 ⟨rfl, hk2⟩
          have hR2 := (hR1.drew nq).keep hk2 (by simp)
          have hk2' : Kp [b0] w1 w2 := ((Kp.refl [] w1).drewN nq |>.trans hk2).nil
          have HO3 := Lib.hid (HO2.out.keep hk2' (by simp) (by simp) (by simpa using htb'))
          have HJ3 := Lib.hid (HK1.out pre _ _ HJ2.out HO2.out.size hk2')
          clear f0 f1 f2 f3 f4 fz hlt6 fp ft
          obtain ⟨f0, f1, f2, f3, f4, fz, hlt6⟩ := hR2.rdr.facts
          obtain ⟨fp, ft⟩ := HO3.out.facts
          have hcl := clsIdx_lt (Lx.nx l1 0)
          have hcg := clsIdx_ge (Lx.nx l1 0)
          have htn := fun j (hk : clsIdx (Lx.nx l1 0) < 0) => @tok_none l1 j hk
          obtain ⟨ci, hci⟩ : ∃ ci, ci = clsIdx (Lx.nx l1 0) := ⟨_, rfl⟩
          rw [← hci] at hcl hcg htn ⊢
          have HTN := Lib.hid htn; clear htn
          have HCI := Lib.hid hci; clear hci
          cases hc0 : decide (0 ≤ ci)
          · go_wp2_with fail
            refine (need_no 10 _ _).mono ?_
            rintro e w3 ⟨rfl, rfl⟩
            go_wp2
            refine ⟨rfl, ?_⟩
            rw [HP0.out]
            refine ⟨pre, HJ3.out, ?_⟩
            rw [HDV3.out, HTN.out _ (by simpa using hc0)]
            rfl
          · obtain ⟨ck, rfl⟩ := Int.eq_ofNat_of_zero_le (by simpa using hc0 : 0 ≤ ci)
            have hck : ck < 6 := by omega
            go_wp2_with fail
            refine (need_yes 10 _ _).mono ?_
            rintro e w3 ⟨rfl, rfl⟩
            go_wp2_with fail
            obtain ⟨w3, hw3⟩ : ∃ w3, w3 = w2.alloc (.cells #[.int .i64 a1, .int .i64 p1.1, .int .i64 p1.2] 87) := ⟨_, rfl⟩
            have hk3 : Kp [] w2 w3 := by rw [hw3]; exact (Kp.refl [] w2).alloc _
            have hbk : w3.heap[w2.heap.size]? = some (.cells #[.int .i64 a1, .int .i64 p1.1, .int .i64 p1.2] 87 (0, 0)) := by rw [hw3]; exact heap_alloc_new w2 _
            rw [← hw3]
            clear hw3
            have hR3 := hR2.keep hk3 (by simp)
            have HO4 := Lib.hid (HO3.out.keep hk3 (by simp) (by simp) (by simp))
            have HJ4 := Lib.hid (HK1.out pre _ _ HJ3.out HO3.out.size hk3.nil)
            have HRD : Hid (∀ m, Calls Tryz.prog (clsG ck) #[.pointer (some ⟨b0, 0, none⟩)] (w3.drewN m) (RdPost b0 t a1 l1 p1.1 p1.2 (fun k n => if k = 1 then ((a1 + n : Nat) : Int) else name) (w3.drewN m) (Lx.tok (Lx.joined a1 name) l1))) := fun m => read_c (hR3.drew m) hl10 ck HCI.out.symm
            obtain ⟨c1, c2⟩ := cls_cell HO4.out.cls ck hck
            have hent : ∀ args w, (callFunc (clsG ck) args).run Tryz.prog w = .ok (.enter (clsG ck) args) w := clsG_enters ck
            obtain ⟨gf, hgf⟩ : ∃ gf, gf = clsG ck := ⟨_, rfl⟩
            rw [← hgf] at hent c2 HRD
            clear hgf c1
            clear f0 f1 f2 f3 f4 fz hlt6 fp ft
            obtain ⟨fp, ft⟩ := HO4.out.facts
            have HBK := Lib.hid hbk; clear hbk
            have hszb : w2.heap.size < w3.heap.size := lt_of_block HBK.out
            obtain ⟨bb, hbb'⟩ : ∃ bb, bb = w2.heap.size := ⟨_, rfl⟩
            have hbne : bb ≠ b0 := by have := hR2.lt; omega
            rw [← hbb'] at HBK hszb ⊢
            clear hbb'
            refine wp_draw_mid 6 (by kernel_rfl) (by kernel_rfl) ?_
            simp only [List.take_succ_cons, List.take_zero, List.drop_succ_cons, List.drop_zero]
            iterate 6 (go_big_quiet_step (fail))
            refine wpQuiet_nil ?_
            intro _ hw'
            obtain ⟨nq2, hw''⟩ := hw'
            subst hw''
            go_wp2_with fail
            refine (HRD.out nq2).mono ?_
            rintro e w4 ⟨hk4, hp⟩
            cases htok : Lx.tok (Lx.joined a1 name) l1 with
            | bad er =>
              rw [htok] at hp
              simp only at hp
              subst hp
              have hk4' : Kp [b0] w3 w4 := ((Kp.refl [] w3).drewN nq2 |>.nil).trans hk4
              go_wp2
              refine ⟨rfl, ?_⟩
              rw [HP0.out]
              refine ⟨pre, HK1.out pre _ _ HJ4.out HO4.out.size hk4', ?_⟩
              rw [HDV3.out, htok]
              rfl
            | good kd tx m =>
              rw [htok] at hp
              simp only at hp
              obtain ⟨rfl, hR5⟩ := hp
              go_wp2_with fail
              iterate 5 (go_big_quiet_step (fail))
              refine wpQuiet_nil ?_
              intro nq3
              have hk4' : Kp [b0] w3 (w4.drewN nq3) := (((Kp.refl [] w3).drewN nq2 |>.nil).trans hk4).drewN nq3
              have hR6 := hR5.drew nq3
              have HO5 := Lib.hid (HO4.out.keep hk4' (by simp) (by simp) (by simpa using htb'))
              have HJ5 := Lib.hid (HK1.out pre _ _ HJ4.out HO4.out.size hk4')
              have hbk5 := hk4'.heap HBK.out (by simpa using hbne)
              obtain ⟨w5, hw5⟩ : ∃ w5, w5 = w4.drewN nq3 := ⟨_, rfl⟩
              rw [← hw5] at hR6 HO5 HJ5 hbk5 ⊢
              clear hw5 hk4 hk4' hR5 fp ft HO4 HJ4
              have f0 : w5.cell? ⟨bb, 0, none⟩ = some (.int .i64 a1) := cell_of_block hbk5 0
              have f1 : w5.cell? ⟨bb, 1, none⟩ = some (.int .i64 p1.1) := cell_of_block hbk5 1
              have f2 : w5.cell? ⟨bb, 2, none⟩ = some (.int .i64 p1.2) := cell_of_block hbk5 2
              have HBK5 := Lib.hid hbk5; clear hbk5 HBK
              obtain ⟨g0, g1, g2, g3, g4, gz, hlt6⟩ := hR6.rdr.facts
              obtain ⟨fp, ft⟩ := HO5.out.facts
              cases hm : decide (k < 6000)
              · have hm' : decide ((k : Int) < 6000) = false := by rw [← hm]; exact decide_eq_decide.2 (by omega)
                go_wp2_with fail
                refine (need_no 2 _ _).mono ?_
                rintro e w6 ⟨rfl, rfl⟩
                go_wp2
                refine ⟨rfl, ?_⟩
                rw [HP0.out]
                refine ⟨pre, HJ5.out, ?_⟩
                rw [HDV3.out, htok]
                simp only
                rw [if_neg (by simpa using hm)]
                rfl
              · have hm' : decide ((k : Int) < 6000) = true := by rw [← hm]; exact decide_eq_decide.2 (by omega)
                go_wp2_with fail
                refine (need_yes 2 _ _).mono ?_
                rintro e w6 ⟨rfl, rfl⟩
                go_wp2_with fail
                refine wp_draw_tail_in 16 (by kernel_rfl) (by kernel_rfl) ?_
                simp only [List.take_succ_cons, List.take_zero, List.drop_succ_cons, List.drop_zero]
                iterate 16 (go_big_quiet_step (fail))
                refine wpQuiet_nil ?_
                intro _ hw'
                obtain ⟨nq4, hw''⟩ := hw'
                subst hw''
                have hkd : Kp [] w5 (w5.drewN nq4) := (Kp.refl _ _).drewN _
                have hJ6 := HK1.out pre _ _ HJ5.out HO5.out.size hkd.nil
                have HO6 := Lib.hid (HO5.out.keep hkd (by simp) (by simp) (by simp))
                have hR7 := hR6.drew nq4
                refine wpListIn_yield (y := .tmp 76) (x := .tmp 61) rfl rfl (HY1.out pre ⟨kd, tx, p1.1, p1.2, a1, a1 + m⟩ _ hJ6 HO6.out.size (by rw [← HKP.out]; simpa using hm)) ?_
                rintro e w6 ⟨rfl, hJ7, hrk⟩
                simp only
                have hR8 := hR7.round hrk
                have HO7 := Lib.hid (HO6.out.round hrk)
                clear hR7 hR6 g0 g1 g2 g3 g4 gz hlt6 fp ft f0 f1 f2 HO6 HO5 HJ5 HBK5 HO3 HJ3 HO2 HJ2
                go_simp
                gi_wp2_with fail
                go_wp2_with fail
                have hfit := Lx.tok_fits hl10 htok
                have hdv := HDV3.out
                rw [htok] at hdv
                simp only at hdv
                rw [if_pos (by simpa using hm)] at hdv
                go_roundg f
                case measure => omega
                case rel =>
                  refine ⟨k + 1, by simp, by have := of_decide_eq_true hm; omega, a1 + m, l1.drop m, _, _, _, pre ++ [⟨kd, tx, p1.1, p1.2, a1, a1 + m⟩], by rw [List.length_drop]; omega, by rw [HKP.out]; simp, ?_, hR8, HO7.out, hJ7⟩
                  rw [hdv]
                  simp

end Go.Proofs.YtogmealngeejmaaGreatDoor
