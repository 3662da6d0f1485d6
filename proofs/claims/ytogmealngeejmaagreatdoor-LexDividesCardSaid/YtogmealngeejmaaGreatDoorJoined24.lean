import Derived.Test.YtogmealngeejmaaGreatDoorJoined23
import Derived.Deep.RegionHeld3
/- Edit: what it comes to. -/
namespace Go.Proofs.YtogmealngeejmaaGreatDoor
open Go Go.RowKit

theorem results_tmp5 {fn : Func} {a b c d e : Tmp} (h : fn.results = #[.tmp a, .tmp b, .tmp c, .tmp d, .tmp e]) (tmps : Array Value) (P : Program) (w : World) :
    (results fn tmps).run P w = .ok (.tuple #[tmps.getD a undef, tmps.getD b undef, tmps.getD c undef, tmps.getD d undef, tmps.getD e undef]) w := by
  simp [results, h, go_sem]

/-- Whether two pieces at the end are the same, as far behind the change. -/
def Lx.stays (n m : Nat) (tw : Int) (q : Lx.Pc × Lx.Pc) : Bool :=
  Tok.alike (tkOf q.1) (tkOf q.2) && ((n : Int) - q.1.to == (m : Int) - q.2.to) && !decide ((q.1.frm : Int) < tw)

/-- The ends of two lists, side by side. -/
def Lx.ends2 (old now : List Lx.Pc) (h : Nat) : List (Lx.Pc × Lx.Pc) := (old.drop h).reverse.zip (now.drop h).reverse

theorem Lx.ends2_len (old now : List Lx.Pc) (h : Nat) : (Lx.ends2 old now h).length = min (old.length - h) (now.length - h) := by simp [Lx.ends2]
theorem Lx.ends2_get {old now : List Lx.Pc} {h k : Nat} {x y : Lx.Pc} (h1 : k < old.length - h) (h2 : k < now.length - h) (hx : old[old.length - 1 - k]? = some x) (hy : now[now.length - 1 - k]? = some y) : (Lx.ends2 old now h)[k]? = some (x, y) := by
  have one : ∀ {l : List Lx.Pc} {z : Lx.Pc}, k < l.length - h → l[l.length - 1 - k]? = some z → (l.drop h).reverse[k]? = some z := by
    intro l z hk hz
    rw [List.getElem?_reverse (by simpa using hk), List.length_drop, List.getElem?_drop, ← hz]
    congr 1; omega
  unfold Lx.ends2
  rw [List.getElem?_zip_eq_some]
  exact ⟨one h1 hx, one h2 hy⟩

theorem Lx.divs_to (f : Nat) : ∀ (a : Nat) (l : Lx.Bs) (line col name : Int) (many : Nat), ∀ p ∈ (Lx.divs f a l line col name many).1, p.frm ≤ p.to ∧ p.to ≤ a + l.length := by
  induction f with
  | zero => intro a l line col name many p hp; simp [Lx.divs] at hp
  | succ f ih =>
    intro a l line col name many p hp
    rw [divs_succ] at hp
    split at hp
    · simp at hp
    · rename_i n hn
      have hnl := Lx.pas_le l 0 none n hn
      split at hp
      · simp at hp
      · rename_i hne
        split at hp
        · simp at hp
        · rename_i k tx m htk
          have hm := Lx.tok_fits hne htk
          rw [List.length_drop] at hm
          split at hp
          · simp only [List.mem_cons] at hp
            rcases hp with rfl | hp
            · simp only; omega
            · have := ih _ _ _ _ _ _ p hp
              simp only [List.length_drop] at this
              omega
          · simp at hp

theorem Lx.dv_to (t : Lx.Bs) : ∀ p ∈ (Lx.dv t).1, p.frm ≤ p.to ∧ p.to ≤ t.length := by
  intro p hp
  unfold Lx.dv at hp
  split at hp
  · unfold Lx.divide at hp
    split at hp
    · have := Lx.divs_to _ _ _ _ _ _ _ p hp; omega
    · simp at hp
  · simp at hp

/-- What Edit says: the text, head, tail, the error, its index. -/
def Lx.edit (t : Lx.Bs) (frm tw : Int) (wi : Lx.Bs) : Lx.Bs × Int × Int × Int × Nat :=
  if frm < 0 ∨ tw < frm ∨ (t.length : Int) < tw then ([], 0, 0, 1, 0)
  else if (Lx.dv t).2.1 ≠ 0 then ([], 0, 0, (Lx.dv t).2.1, (Lx.dv t).2.2)
  else if (Lx.dv (t.take frm.toNat ++ wi ++ t.drop tw.toNat)).2.1 ≠ 0 then ([], 0, 0, (Lx.dv (t.take frm.toNat ++ wi ++ t.drop tw.toNat)).2.1, (Lx.dv (t.take frm.toNat ++ wi ++ t.drop tw.toNat)).2.2)
  else (t.take frm.toNat ++ wi ++ t.drop tw.toNat, runOf (fun p => decide ((p.to : Int) < frm)) (Lx.dv t).1,
    runOf (Lx.stays t.length (t.take frm.toNat ++ wi ++ t.drop tw.toNat).length tw) (Lx.ends2 (Lx.dv t).1 (Lx.dv (t.take frm.toNat ++ wi ++ t.drop tw.toNat)).1 (runOf (fun p => decide ((p.to : Int) < frm)) (Lx.dv t).1).toNat), 0, 0)



set_option maxRecDepth 100000 in
set_option maxHeartbeats 4000000 in
theorem edit_c (t : ByteArray) (frm tw : Int) (wi : ByteArray) (w : World) (hsz : t.size ≤ 100000) (hsz2 : wi.size ≤ 100000) :
    Calls Tryz.prog 28 #[.string t, .int .i64 frm, .int .i64 tw, .string wi] w fun e w' => Kp [] w w' ∧
      e = .returned (.tuple #[.string ⟨(Lx.edit t.data.toList frm tw wi.data.toList).1.toArray⟩, .int .i64 (Lx.edit t.data.toList frm tw wi.data.toList).2.1, .int .i64 (Lx.edit t.data.toList frm tw wi.data.toList).2.2.1,
        .int .i64 (Lx.edit t.data.toList frm tw wi.data.toList).2.2.2.1, .int .i64 (Lx.edit t.data.toList frm tw wi.data.toList).2.2.2.2]) := by
  obtain ⟨R, hR⟩ : ∃ R, R = Lx.edit t.data.toList frm tw wi.data.toList := ⟨_, rfl⟩
  rw [← hR]
  unfold Lx.edit at hR
  obtain ⟨P0, hP0⟩ : ∃ P0 : Ending → World → Prop, P0 = fun e w' => Kp [] w w' ∧ e = .returned (.tuple #[.string ⟨R.1.toArray⟩, .int .i64 R.2.1, .int .i64 R.2.2.1, .int .i64 R.2.2.2.1, .int .i64 R.2.2.2.2]) := ⟨_, rfl⟩
  rw [← hP0]
  have HP0 := Lib.hid hP0; clear hP0
  have hmf : ∀ (fn : Fn) (first cap : Array Value) (w : World), (Instr.makeFunc fn first cap).run Tryz.prog w = .ok (.func fn first cap) w := fun _ _ _ _ => rfl
  have hlen := size_list t
  rw [hlen] at hR
  clear hlen
  go_enter Tryz.func28, Tryz.ntmps28
  by_cases h0 : frm < 0
  · rw [if_pos (.inl h0)] at hR
    have h0a : decide (frm < 0) = true := decide_eq_true h0
    have HR := Lib.hid hR; clear hR h0
    go_wp2_with fail
    refine bodyPost_ret (results_tmp5 rfl _ _ _) rfl ?_
    rw [HP0.out]
    exact ⟨(Kp.refl [] w).alloc _, by rw [HR.out]; rfl⟩
  · have h0a : decide (frm < 0) = false := decide_eq_false h0
    by_cases h1 : tw < frm
    · rw [if_pos (.inr (.inl h1))] at hR
      have h1a : decide (tw < frm) = true := decide_eq_true h1
      have HR := Lib.hid hR; clear hR h0 h1
      go_wp2_with fail
      refine bodyPost_ret (results_tmp5 rfl _ _ _) rfl ?_
      rw [HP0.out]
      exact ⟨(Kp.refl [] w).alloc _, by rw [HR.out]; rfl⟩
    · have h1a : decide (tw < frm) = false := decide_eq_false h1
      by_cases h2 : (t.size : Int) < tw
      · rw [if_pos (.inr (.inr h2))] at hR
        have h2a : decide ((t.size : Int) < tw) = true := decide_eq_true h2
        have HR := Lib.hid hR; clear hR h0 h1 h2
        go_wp2_with fail
        refine bodyPost_ret (results_tmp5 rfl _ _ _) rfl ?_
        rw [HP0.out]
        exact ⟨(Kp.refl [] w).alloc _, by rw [HR.out]; rfl⟩
      · have h2a : decide ((t.size : Int) < tw) = false := decide_eq_false h2
        rw [if_neg (by omega)] at hR
        go_wp2_with fail
        refine (divided_d t _ (by omega)).mono ?_
        rintro e w1 ⟨hk1, v, rfl, hrow⟩
        obtain ⟨ot, hot⟩ : ∃ ot : Lx.Bs, ot = List.take frm.toNat t.data.toList ++ wi.data.toList ++ List.drop tw.toNat t.data.toList := ⟨_, rfl⟩
        rw [← hot] at hR
        obtain ⟨⟨ps, er, a⟩, hr⟩ : ∃ r, r = Lx.dv t.data.toList := ⟨_, rfl⟩
        have hpl := Lx.dv_len t.data.toList
        have hpt := Lx.dv_to t.data.toList
        rw [size_list] at hpt
        rw [← hr] at hR hrow hpl hpt ⊢
        clear hr
        simp only at hR hrow hpl hpt ⊢
        have HPT := Lib.hid hpt; clear hpt
        have hbx : w1.heap[w.heap.size]? = some (.cells #[.int .i64 frm] 3 (0, 0)) := hk1.heap (heap_alloc_new w _) (by simp)
        have HK1 := Lib.hid (((Kp.refl [] w).alloc _).trans hk1); clear hk1
        have HRD := Lib.hid (Rd.of_own cellsPc_length hrow); clear hrow
        have f0 : w1.cell? ⟨w.heap.size, 0, none⟩ = some (.int .i64 frm) := cell_of_block hbx 0
        have HBX := Lib.hid hbx; clear hbx
        by_cases he : er = 0
        · subst he
          rw [if_neg (by simp)] at hR
          have HR := Lib.hid hR; clear hR
          go_wp2_with fail
          go_quiet (fail)
          go_wp2_with fail
          have hout : t.extract 0 frm.toNat ++ wi ++ t.extract tw.toNat t.size = ⟨ot.toArray⟩ := by
            have e0 : ∀ a : ByteArray, a = ⟨a.data.toList.toArray⟩ := fun a => by cases a; simp
            rw [e0 (t.extract 0 frm.toNat ++ wi ++ t.extract tw.toNat t.size)]
            congr 1
            rw [hot]
            congr 1
            rw [ByteArray.data_append, ByteArray.data_append, Array.toList_append, Array.toList_append, ext_list, ext_list]
            rw [List.drop_zero, Nat.sub_zero]
            congr 1
            exact List.take_of_length_le (by rw [List.length_drop, size_list]; omega)
          have hosz : (⟨ot.toArray⟩ : ByteArray).size = ot.length := by simp [ByteArray.size]
          have hol : ot.length ≤ 200000 := by
            rw [hot]; simp only [List.length_append, List.length_take, List.length_drop, size_list]; omega
          rw [hout]
          have HOUT := Lib.hid hout; clear hout
          have HOT := Lib.hid hot; clear hot
          have hdd := divided_d ⟨ot.toArray⟩ (w1.drewN nq) (by omega)
          rw [show (⟨ot.toArray⟩ : ByteArray).data.toList = ot from by simp] at hdd
          have HOS := Lib.hid hosz
          refine hdd.mono ?_
          rintro e w2 ⟨hk2, v2, rfl, hrow⟩
          clear hdd
          have hk2' : Kp [] w1 w2 := ((Kp.refl [] w1).drewN nq).trans hk2
          obtain ⟨⟨qs, er, a2⟩, hr⟩ : ∃ r, r = Lx.dv ot := ⟨_, rfl⟩
          have hql := Lx.dv_len ot
          have hqt := Lx.dv_to ot
          have hR := HR.out
          rw [← hr] at hR hrow hql hqt ⊢
          clear hr HR
          simp only at hR hrow hql hqt ⊢
          have HQT := Lib.hid hqt; clear hqt
          have HK2 := Lib.hid (HK1.out.trans hk2')
          have hbx := hk2'.heap HBX.out (by simp)
          have HRP := Lib.hid (HRD.out.keep hk2')
          have HRQ := Lib.hid (Rd.of_own cellsPc_length hrow)
          clear hrow hk2 hk2' HRD HK1 HBX f0
          have f0 : w2.cell? ⟨w.heap.size, 0, none⟩ = some (.int .i64 frm) := cell_of_block hbx 0
          have HBX := Lib.hid hbx; clear hbx
          by_cases he : er = 0
          · subst he
            rw [if_neg (by simp)] at hR
            have HR := Lib.hid hR; clear hR
            go_wp2_with fail
            have hent : ∀ args w, (callFunc 57 args).run Tryz.prog w = .ok (.enter 57 args) w := Proofs.enters_of Tryz.func57 (by kernel_rfl) rfl
            refine (runPc_c ps v w2 HRP.out (by omega) (fun p => decide ((p.to : Int) < frm)) 57 #[.pointer (some ⟨w.heap.size, 0, none⟩)] hent (fun x wr hk => edit1_c x frm w.heap.size wr (cell_of_block (hk.heap HBX.out (by simp)) 0))).mono ?_
            rintro e w3 ⟨rfl, hk3⟩
            obtain ⟨hd, hhd, hle⟩ : ∃ hd : Nat, runOf (fun p : Lx.Pc => decide ((p.to : Int) < frm)) ps = hd ∧ hd ≤ ps.length := ⟨_, rfl, by exact (List.takeWhile_prefix _).length_le⟩
            have hR := HR.out
            rw [hhd] at hR ⊢
            clear HR hhd
            simp only [Int.toNat_natCast] at hR
            have hZl := Lx.ends2_len ps qs hd
            have hZg : ∀ (k : Nat) (x y : Lx.Pc), k < ps.length - hd → k < qs.length - hd → ps[ps.length - 1 - k]? = some x → qs[qs.length - 1 - k]? = some y → (Lx.ends2 ps qs hd)[k]? = some (x, y) := fun k x y h1 h2 h3 h4 => Lx.ends2_get h1 h2 h3 h4
            obtain ⟨Z, hZ⟩ : ∃ Z, Z = Lx.ends2 ps qs hd := ⟨_, rfl⟩
            rw [← hZ] at hR hZl hZg
            clear hZ
            have HR := Lib.hid hR; clear hR
            have HZG := Lib.hid hZg; clear hZg
            have HZL := Lib.hid hZl; clear hZl
            have HK3 := Lib.hid (HK2.out.trans hk3)
            obtain ⟨bp, cp, rfl, hpc⟩ := (HRP.out.keep hk3).view
            obtain ⟨bq, cq, rfl, hqc⟩ := (HRQ.out.keep hk3).view
            have HPC := Lib.hid hpc; clear hpc
            have HQC := Lib.hid hqc; clear hqc
            clear hk3 HRP HRQ f0 HBX HK2 hent
            go_wp2_with fail
            go_loopg [19] Z.length (fun n y wr => ∃ k : Nat, n = Z.length - k ∧ y = .int .i64 k ∧ k ≤ Z.length ∧ Hid (∀ j q, j < k → Z[j]? = some q → Lx.stays t.size ot.length tw q = true) ∧ Kp [] w wr ∧ Kp [] w3 wr)
            case atStart => exact ⟨0, rfl, rfl, Nat.zero_le _, fun j q hj => by omega, HK3.out, Kp.refl _ _⟩
            case round =>
              obtain ⟨k, rfl, rfl, hk, hall, hkp, hk3⟩ := hrel
              by_cases hkZ : k < Z.length
              · have hk1 : k < ps.length - hd := by have := HZL.out; omega
                have hk2 : k < qs.length - hd := by have := HZL.out; omega
                have b1 : decide ((k : Int) < (ps.length : Int) - hd) = true := decide_eq_true (by omega)
                have b2 : decide ((k : Int) < (qs.length : Int) - hd) = true := decide_eq_true (by omega)
                obtain ⟨io, hio⟩ : ∃ io, io = ps.length - 1 - k := ⟨_, rfl⟩
                obtain ⟨jo, hjo⟩ : ∃ jo, jo = qs.length - 1 - k := ⟨_, rfl⟩
                have ei : (ps.length : Int) - 1 - (k : Int) = (io : Int) := by omega
                have ej : (qs.length : Int) - 1 - (k : Int) = (jo : Int) := by omega
                have li : io < ps.length := by omega
                have lj : jo < qs.length := by omega
                obtain ⟨x, hx⟩ : ∃ x, ps[io]? = some x := ⟨ps[io], by simp [li]⟩
                obtain ⟨y, hy⟩ : ∃ y, qs[jo]? = some y := ⟨qs[jo], by simp [lj]⟩
                have hZk : Z[k]? = some (x, y) := HZG.out k x y hk1 hk2 (by rw [← hio]; exact hx) (by rw [← hjo]; exact hy)
                have HZK := Lib.hid hZk; clear hZk
                obtain ⟨ga, oa, rfl, hga, hxa⟩ := HPC.out io x hx
                obtain ⟨gb, ob, rfl, hgb, hyb⟩ := HQC.out jo y hy
                have bx := HPT.out x (List.mem_of_getElem? hx)
                have by' := HQT.out y (List.mem_of_getElem? hy)
                clear hio hjo hx hy
                have li' : (io : Int) < (ps.length : Int) := by omega
                have lj' : (jo : Int) < (qs.length : Int) := by omega
                have c0 : wr.cell? ⟨ga, oa + io * 6, none⟩ = some (.int .i64 x.kind) := (hk3.cell (p := ⟨ga, _, none⟩) hga (by simp)).trans (hxa 0 _ rfl)
                have c1 : wr.cell? ⟨ga, oa + io * 6 + 1, none⟩ = some (.string ⟨x.text.toArray⟩) := (hk3.cell (p := ⟨ga, _, none⟩) hga (by simp)).trans (hxa 1 _ rfl)
                have c2 : wr.cell? ⟨ga, oa + io * 6 + 2, none⟩ = some (.int .i64 x.line) := (hk3.cell (p := ⟨ga, _, none⟩) hga (by simp)).trans (hxa 2 _ rfl)
                have c3 : wr.cell? ⟨ga, oa + io * 6 + 3, none⟩ = some (.int .i64 x.col) := (hk3.cell (p := ⟨ga, _, none⟩) hga (by simp)).trans (hxa 3 _ rfl)
                have c4 : wr.cell? ⟨ga, oa + io * 6 + 4, none⟩ = some (.int .i64 x.frm) := (hk3.cell (p := ⟨ga, _, none⟩) hga (by simp)).trans (hxa 4 _ rfl)
                have c5 : wr.cell? ⟨ga, oa + io * 6 + 5, none⟩ = some (.int .i64 x.to) := (hk3.cell (p := ⟨ga, _, none⟩) hga (by simp)).trans (hxa 5 _ rfl)
                have d0 : wr.cell? ⟨gb, ob + jo * 6, none⟩ = some (.int .i64 y.kind) := (hk3.cell (p := ⟨gb, _, none⟩) hgb (by simp)).trans (hyb 0 _ rfl)
                have d1 : wr.cell? ⟨gb, ob + jo * 6 + 1, none⟩ = some (.string ⟨y.text.toArray⟩) := (hk3.cell (p := ⟨gb, _, none⟩) hgb (by simp)).trans (hyb 1 _ rfl)
                have d2 : wr.cell? ⟨gb, ob + jo * 6 + 2, none⟩ = some (.int .i64 y.line) := (hk3.cell (p := ⟨gb, _, none⟩) hgb (by simp)).trans (hyb 2 _ rfl)
                have d3 : wr.cell? ⟨gb, ob + jo * 6 + 3, none⟩ = some (.int .i64 y.col) := (hk3.cell (p := ⟨gb, _, none⟩) hgb (by simp)).trans (hyb 3 _ rfl)
                have d4 : wr.cell? ⟨gb, ob + jo * 6 + 4, none⟩ = some (.int .i64 y.frm) := (hk3.cell (p := ⟨gb, _, none⟩) hgb (by simp)).trans (hyb 4 _ rfl)
                have d5 : wr.cell? ⟨gb, ob + jo * 6 + 5, none⟩ = some (.int .i64 y.to) := (hk3.cell (p := ⟨gb, _, none⟩) hgb (by simp)).trans (hyb 5 _ rfl)
                clear hxa hyb
                have hga' : ga < wr.heap.size := Nat.lt_of_lt_of_le hga hk3.size
                have hgb' : gb < wr.heap.size := Nat.lt_of_lt_of_le hgb hk3.size
                have HKP := Lib.hid hkp; clear hkp
                have HK33 := Lib.hid hk3; clear hk3
                go_wp2_with fail
                have v1 : IntKind.i64.wrap ((ps.length : Int) - 1) = (ps.length : Int) - 1 := Go.IntWalk.i64_in _ (by omega)
                have v2 : IntKind.i64.wrap ((ps.length : Int) - 1 - (k : Int)) = (io : Int) := by rw [ei]; exact Go.IntWalk.i64_in _ (by omega)
                have v3 : IntKind.i64.wrap ((qs.length : Int) - 1) = (qs.length : Int) - 1 := Go.IntWalk.i64_in _ (by omega)
                have v4 : IntKind.i64.wrap ((qs.length : Int) - 1 - (k : Int)) = (jo : Int) := by rw [ej]; exact Go.IntWalk.i64_in _ (by omega)
                have z1 : (0 : Int) ≤ (io : Int) := by omega
                have z3 : (0 : Int) ≤ (ps.length : Int) - 1 - (k : Int) := by omega
                have z4 : (ps.length : Int) - 1 - (k : Int) < (ps.length : Int) := by omega
                have z5 : ((ps.length : Int) - 1 - (k : Int)).toNat = io := by omega
                have z6 : (0 : Int) ≤ (qs.length : Int) - 1 - (k : Int) := by omega
                have z7 : (qs.length : Int) - 1 - (k : Int) < (qs.length : Int) := by omega
                have z8 : ((qs.length : Int) - 1 - (k : Int)).toNat = jo := by omega
                have z2 : (0 : Int) ≤ (jo : Int) := by omega
                go_region
                · obtain ⟨V, hV⟩ : ∃ V, V = ((wr.alloc (.cells #[.int .i64 x.kind, .string ⟨x.text.toArray⟩, .int .i64 x.line, .int .i64 x.col, .int .i64 x.frm, .int .i64 x.to] 69)).alloc (.cells #[.int .i64 y.kind, .string ⟨y.text.toArray⟩, .int .i64 y.line, .int .i64 y.col, .int .i64 y.frm, .int .i64 y.to] 69)).drew := ⟨_, rfl⟩
                  have hkV : Kp [] wr V := by rw [hV]; exact (((Kp.refl [] wr).alloc _).alloc _).drew
                  have h1 := heap_alloc_new wr (.cells #[.int .i64 x.kind, .string ⟨x.text.toArray⟩, .int .i64 x.line, .int .i64 x.col, .int .i64 x.frm, .int .i64 x.to] 69)
                  have h2 := heap_alloc_new (wr.alloc (.cells #[.int .i64 x.kind, .string ⟨x.text.toArray⟩, .int .i64 x.line, .int .i64 x.col, .int .i64 x.frm, .int .i64 x.to] 69)) (.cells #[.int .i64 y.kind, .string ⟨y.text.toArray⟩, .int .i64 y.line, .int .i64 y.col, .int .i64 y.frm, .int .i64 y.to] 69)
                  rw [World.size_alloc] at h2
                  have hVx : V.heap[wr.heap.size]? = some (.cells #[.int .i64 x.kind, .string ⟨x.text.toArray⟩, .int .i64 x.line, .int .i64 x.col, .int .i64 x.frm, .int .i64 x.to] 69 (0, 0)) := by rw [hV]; exact block_alloc h1 _
                  have hVy : V.heap[wr.heap.size + 1]? = some (.cells #[.int .i64 y.kind, .string ⟨y.text.toArray⟩, .int .i64 y.line, .int .i64 y.col, .int .i64 y.frm, .int .i64 y.to] 69 (0, 0)) := by rw [hV]; exact h2
                  rw [← hV]
                  have HKV := Lib.hid (HKP.out.trans hkV)
                  have HKV3 := Lib.hid (HK33.out.trans hkV)
                  clear hV hkV h1 h2 c0 c1 c2 c3 c4 c5 d0 d1 d2 d3 d4 d5
                  have d0 : V.cell? ⟨(wr.heap.size), 0, none⟩ = some (.int .i64 x.kind) := cell_of_block hVx 0
                  have d1 : V.cell? ⟨(wr.heap.size), 1, none⟩ = some (.string ⟨x.text.toArray⟩) := cell_of_block hVx 1
                  have d2 : V.cell? ⟨(wr.heap.size), 2, none⟩ = some (.int .i64 x.line) := cell_of_block hVx 2
                  have d3 : V.cell? ⟨(wr.heap.size), 3, none⟩ = some (.int .i64 x.col) := cell_of_block hVx 3
                  have e0 : V.cell? ⟨(wr.heap.size + 1), 0, none⟩ = some (.int .i64 y.kind) := cell_of_block hVy 0
                  have e1 : V.cell? ⟨(wr.heap.size + 1), 1, none⟩ = some (.string ⟨y.text.toArray⟩) := cell_of_block hVy 1
                  have e2 : V.cell? ⟨(wr.heap.size + 1), 2, none⟩ = some (.int .i64 y.line) := cell_of_block hVy 2
                  have e3 : V.cell? ⟨(wr.heap.size + 1), 3, none⟩ = some (.int .i64 y.col) := cell_of_block hVy 3
                  have HVX := Lib.hid hVx; clear hVx
                  have HVY := Lib.hid hVy; clear hVy
                  go_wp2_with fail
                  refine (alike_c (tkOf x) (tkOf y) V).mono ?_
                  rintro e U ⟨rfl, hkU⟩
                  have HKU := Lib.hid (HKV.out.trans hkU)
                  have HKU3 := Lib.hid (HKV3.out.trans hkU)
                  have hUx := hkU.heap HVX.out (by simp)
                  have hUy := hkU.heap HVY.out (by simp)
                  clear hkU d0 d1 d2 d3 e0 e1 e2 e3
                  have d4 : U.cell? ⟨(wr.heap.size), 4, none⟩ = some (.int .i64 x.frm) := cell_of_block hUx 4
                  have d5 : U.cell? ⟨(wr.heap.size), 5, none⟩ = some (.int .i64 x.to) := cell_of_block hUx 5
                  have e5 : U.cell? ⟨(wr.heap.size + 1), 5, none⟩ = some (.int .i64 y.to) := cell_of_block hUy 5
                  clear hUx hUy
                  have HST : Hid (Lx.stays t.size ot.length tw (x, y) = (Tok.alike (tkOf x) (tkOf y) && (((t.size : Int) - x.to) == ((ot.length : Int) - y.to)) && !decide ((x.frm : Int) < tw))) := Lib.hid rfl
                  have q2 : (((t.size : Int) - x.to) != ((ot.length : Int) - y.to)) = !(((t.size : Int) - x.to) == ((ot.length : Int) - y.to)) := rfl
                  cases ha : Tok.alike (tkOf x) (tkOf y)
                  · have HNO : Hid (Lx.stays t.size ot.length tw (x, y) = false) := Lib.hid (by rw [HST.out, ha]; rfl)
                    go_wp2_with fail
                    refine bodyPost_ret (results_tmp5 rfl _ _ _) rfl ?_
                    rw [HP0.out]
                    exact ⟨HKU.out, by rw [HR.out, runOf_some hall.out HZK.out HNO.out]; rfl⟩
                  · cases hb : (((t.size : Int) - x.to) == ((ot.length : Int) - y.to))
                    · have HNO : Hid (Lx.stays t.size ot.length tw (x, y) = false) := Lib.hid (by rw [HST.out, ha, hb]; rfl)
                      rw [hb] at q2
                      go_wp2_with fail
                      refine bodyPost_ret (results_tmp5 rfl _ _ _) rfl ?_
                      rw [HP0.out]
                      exact ⟨HKU.out, by rw [HR.out, runOf_some hall.out HZK.out HNO.out]; rfl⟩
                    · rw [hb] at q2
                      cases hc : decide ((x.frm : Int) < tw)
                      · have HYE : Hid (Lx.stays t.size ot.length tw (x, y) = true) := Lib.hid (by rw [HST.out, ha, hb, hc]; rfl)
                        go_wp2_with fail
                        go_roundg (Z.length - (k + 1))
                        case measure => omega
                        case rel =>
                          refine ⟨k + 1, rfl, by simp, by omega, fun j q hj hq => ?_, HKU.out, HKU3.out⟩
                          by_cases hjk : j < k
                          · exact hall.out j q hjk hq
                          · obtain rfl : j = k := by omega
                            rw [HZK.out] at hq; cases hq; exact HYE.out
                      · have HNO : Hid (Lx.stays t.size ot.length tw (x, y) = false) := Lib.hid (by rw [HST.out, ha, hb, hc]; rfl)
                        go_wp2_with fail
                        refine bodyPost_ret (results_tmp5 rfl _ _ _) rfl ?_
                        rw [HP0.out]
                        exact ⟨HKU.out, by rw [HR.out, runOf_some hall.out HZK.out HNO.out]; rfl⟩
                · obtain ⟨V, hV⟩ : ∃ V, V = ((wr.alloc (.cells #[.int .i64 y.kind, .string ⟨y.text.toArray⟩, .int .i64 y.line, .int .i64 y.col, .int .i64 y.frm, .int .i64 y.to] 69)).alloc (.cells #[.int .i64 x.kind, .string ⟨x.text.toArray⟩, .int .i64 x.line, .int .i64 x.col, .int .i64 x.frm, .int .i64 x.to] 69)).drew := ⟨_, rfl⟩
                  have hkV : Kp [] wr V := by rw [hV]; exact (((Kp.refl [] wr).alloc _).alloc _).drew
                  have h1 := heap_alloc_new wr (.cells #[.int .i64 y.kind, .string ⟨y.text.toArray⟩, .int .i64 y.line, .int .i64 y.col, .int .i64 y.frm, .int .i64 y.to] 69)
                  have h2 := heap_alloc_new (wr.alloc (.cells #[.int .i64 y.kind, .string ⟨y.text.toArray⟩, .int .i64 y.line, .int .i64 y.col, .int .i64 y.frm, .int .i64 y.to] 69)) (.cells #[.int .i64 x.kind, .string ⟨x.text.toArray⟩, .int .i64 x.line, .int .i64 x.col, .int .i64 x.frm, .int .i64 x.to] 69)
                  rw [World.size_alloc] at h2
                  have hVy : V.heap[wr.heap.size]? = some (.cells #[.int .i64 y.kind, .string ⟨y.text.toArray⟩, .int .i64 y.line, .int .i64 y.col, .int .i64 y.frm, .int .i64 y.to] 69 (0, 0)) := by rw [hV]; exact block_alloc h1 _
                  have hVx : V.heap[wr.heap.size + 1]? = some (.cells #[.int .i64 x.kind, .string ⟨x.text.toArray⟩, .int .i64 x.line, .int .i64 x.col, .int .i64 x.frm, .int .i64 x.to] 69 (0, 0)) := by rw [hV]; exact h2
                  rw [← hV]
                  have HKV := Lib.hid (HKP.out.trans hkV)
                  have HKV3 := Lib.hid (HK33.out.trans hkV)
                  clear hV hkV h1 h2 c0 c1 c2 c3 c4 c5 d0 d1 d2 d3 d4 d5
                  have d0 : V.cell? ⟨(wr.heap.size + 1), 0, none⟩ = some (.int .i64 x.kind) := cell_of_block hVx 0
                  have d1 : V.cell? ⟨(wr.heap.size + 1), 1, none⟩ = some (.string ⟨x.text.toArray⟩) := cell_of_block hVx 1
                  have d2 : V.cell? ⟨(wr.heap.size + 1), 2, none⟩ = some (.int .i64 x.line) := cell_of_block hVx 2
                  have d3 : V.cell? ⟨(wr.heap.size + 1), 3, none⟩ = some (.int .i64 x.col) := cell_of_block hVx 3
                  have e0 : V.cell? ⟨(wr.heap.size), 0, none⟩ = some (.int .i64 y.kind) := cell_of_block hVy 0
                  have e1 : V.cell? ⟨(wr.heap.size), 1, none⟩ = some (.string ⟨y.text.toArray⟩) := cell_of_block hVy 1
                  have e2 : V.cell? ⟨(wr.heap.size), 2, none⟩ = some (.int .i64 y.line) := cell_of_block hVy 2
                  have e3 : V.cell? ⟨(wr.heap.size), 3, none⟩ = some (.int .i64 y.col) := cell_of_block hVy 3
                  have HVX := Lib.hid hVx; clear hVx
                  have HVY := Lib.hid hVy; clear hVy
                  go_wp2_with fail
                  refine (alike_c (tkOf x) (tkOf y) V).mono ?_
                  rintro e U ⟨rfl, hkU⟩
                  have HKU := Lib.hid (HKV.out.trans hkU)
                  have HKU3 := Lib.hid (HKV3.out.trans hkU)
                  have hUx := hkU.heap HVX.out (by simp)
                  have hUy := hkU.heap HVY.out (by simp)
                  clear hkU d0 d1 d2 d3 e0 e1 e2 e3
                  have d4 : U.cell? ⟨(wr.heap.size + 1), 4, none⟩ = some (.int .i64 x.frm) := cell_of_block hUx 4
                  have d5 : U.cell? ⟨(wr.heap.size + 1), 5, none⟩ = some (.int .i64 x.to) := cell_of_block hUx 5
                  have e5 : U.cell? ⟨(wr.heap.size), 5, none⟩ = some (.int .i64 y.to) := cell_of_block hUy 5
                  clear hUx hUy
                  have HST : Hid (Lx.stays t.size ot.length tw (x, y) = (Tok.alike (tkOf x) (tkOf y) && (((t.size : Int) - x.to) == ((ot.length : Int) - y.to)) && !decide ((x.frm : Int) < tw))) := Lib.hid rfl
                  have q2 : (((t.size : Int) - x.to) != ((ot.length : Int) - y.to)) = !(((t.size : Int) - x.to) == ((ot.length : Int) - y.to)) := rfl
                  cases ha : Tok.alike (tkOf x) (tkOf y)
                  · have HNO : Hid (Lx.stays t.size ot.length tw (x, y) = false) := Lib.hid (by rw [HST.out, ha]; rfl)
                    go_wp2_with fail
                    refine bodyPost_ret (results_tmp5 rfl _ _ _) rfl ?_
                    rw [HP0.out]
                    exact ⟨HKU.out, by rw [HR.out, runOf_some hall.out HZK.out HNO.out]; rfl⟩
                  · cases hb : (((t.size : Int) - x.to) == ((ot.length : Int) - y.to))
                    · have HNO : Hid (Lx.stays t.size ot.length tw (x, y) = false) := Lib.hid (by rw [HST.out, ha, hb]; rfl)
                      rw [hb] at q2
                      go_wp2_with fail
                      refine bodyPost_ret (results_tmp5 rfl _ _ _) rfl ?_
                      rw [HP0.out]
                      exact ⟨HKU.out, by rw [HR.out, runOf_some hall.out HZK.out HNO.out]; rfl⟩
                    · rw [hb] at q2
                      cases hc : decide ((x.frm : Int) < tw)
                      · have HYE : Hid (Lx.stays t.size ot.length tw (x, y) = true) := Lib.hid (by rw [HST.out, ha, hb, hc]; rfl)
                        go_wp2_with fail
                        go_roundg (Z.length - (k + 1))
                        case measure => omega
                        case rel =>
                          refine ⟨k + 1, rfl, by simp, by omega, fun j q hj hq => ?_, HKU.out, HKU3.out⟩
                          by_cases hjk : j < k
                          · exact hall.out j q hjk hq
                          · obtain rfl : j = k := by omega
                            rw [HZK.out] at hq; cases hq; exact HYE.out
                      · have HNO : Hid (Lx.stays t.size ot.length tw (x, y) = false) := Lib.hid (by rw [HST.out, ha, hb, hc]; rfl)
                        go_wp2_with fail
                        refine bodyPost_ret (results_tmp5 rfl _ _ _) rfl ?_
                        rw [HP0.out]
                        exact ⟨HKU.out, by rw [HR.out, runOf_some hall.out HZK.out HNO.out]; rfl⟩
              · obtain rfl : k = Z.length := by omega
                have HKP := Lib.hid hkp; clear hkp
                have HRZ : Hid (R = (ot, (hd : Int), (Z.length : Int), 0, 0)) := Lib.hid (by rw [HR.out, runOf_none hall.out])
                cases b1 : decide ((Z.length : Int) < (ps.length : Int) - hd)
                · go_wp2_with fail
                  refine bodyPost_ret (results_tmp5 rfl _ _ _) rfl ?_
                  rw [HP0.out]
                  exact ⟨HKP.out, by rw [HRZ.out]; rfl⟩
                · have b2 : decide ((Z.length : Int) < (qs.length : Int) - hd) = false := decide_eq_false (by have := of_decide_eq_true b1; have := HZL.out; omega)
                  go_wp2_with fail
                  refine bodyPost_ret (results_tmp5 rfl _ _ _) rfl ?_
                  rw [HP0.out]
                  exact ⟨HKP.out, by rw [HRZ.out]; rfl⟩
          · have he1 : (er != 0) = true := by simpa using he
            have he2 : (er == 0) = false := by simpa using he
            rw [if_pos he] at hR
            have HR := Lib.hid hR; clear hR he
            go_wp2_with fail
            refine bodyPost_ret (results_tmp5 rfl _ _ _) rfl ?_
            rw [HP0.out]
            exact ⟨HK2.out, by rw [HR.out]; rfl⟩
        · have he1 : (er != 0) = true := by simpa using he
          have he2 : (er == 0) = false := by simpa using he
          rw [if_pos he] at hR
          have HR := Lib.hid hR; clear hR he
          go_wp2_with fail
          refine bodyPost_ret (results_tmp5 rfl _ _ _) rfl ?_
          rw [HP0.out]
          exact ⟨HK1.out, by rw [HR.out]; rfl⟩

end Go.Proofs.YtogmealngeejmaaGreatDoor

/- The plain law of places: pieces stand one behind the other, each at its place. -/
namespace Go.Proofs.YtogmealngeejmaaGreatDoor
open Go Go.RowKit

/-- One place is ahead of another. -/
def Lx.ahead (p q : Int × Int) : Prop := p.1 < q.1 ∨ (p.1 = q.1 ∧ p.2 < q.2)
theorem Lx.ahead.trans {p q r : Int × Int} (h : Lx.ahead p q) (k : Lx.ahead q r) : Lx.ahead p r := by
  unfold Lx.ahead at *; omega
theorem Lx.ahead1 (p : Int × Int) (b : UInt8) : Lx.ahead p (Lx.adv1 p b) := by
  unfold Lx.ahead Lx.adv1; split <;> simp <;> omega
theorem Lx.adv_ahead : ∀ (s : Lx.Bs) (p : Int × Int), s ≠ [] → Lx.ahead p (Lx.adv s p) := by
  intro s
  induction s with
  | nil => intro p h; exact absurd rfl h
  | cons b s ih =>
    intro p _
    have e : Lx.adv (b :: s) p = Lx.adv s (Lx.adv1 p b) := rfl
    rw [e]
    by_cases hs : s = []
    · subst hs; exact Lx.ahead1 p b
    · exact (Lx.ahead1 p b).trans (ih _ hs)

theorem Lx.divs_from (f : Nat) : ∀ (a : Nat) (l : Lx.Bs) (line col name : Int) (many : Nat), ∀ p ∈ (Lx.divs f a l line col name many).1, a ≤ p.frm ∧ p.frm < p.to := by
  induction f with
  | zero => intro a l line col name many p hp; simp [Lx.divs] at hp
  | succ f ih =>
    intro a l line col name many p hp
    rw [divs_succ] at hp
    split at hp
    · simp at hp
    · split at hp
      · simp at hp
      · rename_i hne
        split at hp
        · simp at hp
        · rename_i k tx m htk
          have hm := Lx.tok_fits hne htk
          split at hp
          · simp only [List.mem_cons] at hp
            rcases hp with rfl | hp
            · simp only; omega
            · have := ih _ _ _ _ _ _ p hp; omega
          · simp at hp

theorem Lx.divs_pair (f : Nat) : ∀ (a : Nat) (l : Lx.Bs) (line col name : Int) (many : Nat), (Lx.divs f a l line col name many).1.Pairwise fun x y => x.to ≤ y.frm := by
  induction f with
  | zero => intro a l line col name many; simp [Lx.divs]
  | succ f ih =>
    intro a l line col name many
    rw [divs_succ]
    split
    · simp
    · split
      · simp
      · split
        · simp
        · split
          · simp only [List.pairwise_cons]
            exact ⟨fun y hy => (Lx.divs_from _ _ _ _ _ _ _ y hy).1, ih _ _ _ _ _ _⟩
          · simp

theorem Lx.divs_place (T : Lx.Bs) (f : Nat) : ∀ (a : Nat) (l : Lx.Bs) (line col name : Int) (many : Nat), l = T.drop a → a ≤ T.length → Lx.adv (T.take a) (1, 1) = (line, col) →
    ∀ p ∈ (Lx.divs f a l line col name many).1, Lx.adv (T.take p.frm) (1, 1) = (p.line, p.col) := by
  induction f with
  | zero => intro a l line col name many _ _ _ p hp; simp [Lx.divs] at hp
  | succ f ih =>
    intro a l line col name many hl ha hadv p hp
    rw [divs_succ] at hp
    have step : ∀ k, Lx.adv (T.take (a + k)) (1, 1) = Lx.adv (l.take k) (line, col) := by
      intro k; rw [List.take_add, Lx.adv_append, hadv, hl]
    split at hp
    · simp at hp
    · rename_i n hn
      have hnl := Lx.pas_le l 0 none n hn
      split at hp
      · simp at hp
      · rename_i hne
        split at hp
        · simp at hp
        · rename_i k tx m htk
          have hm := Lx.tok_fits hne htk
          rw [List.length_drop] at hm
          have hll : l.length = T.length - a := by rw [hl, List.length_drop]
          split at hp
          · simp only [List.mem_cons] at hp
            rcases hp with rfl | hp
            · exact step n
            · refine ih (a + n + m) _ _ _ _ _ ?_ (by omega) ?_ p hp
              · rw [hl, List.drop_drop, List.drop_drop, Nat.add_assoc]
              · rw [Nat.add_assoc, step (n + m), List.take_add, Lx.adv_append]
          · simp at hp

theorem Lx.dv_pair (t : Lx.Bs) : (Lx.dv t).1.Pairwise fun x y => x.to ≤ y.frm := by
  unfold Lx.dv
  split
  · unfold Lx.divide
    split
    · exact Lx.divs_pair _ _ _ _ _ _ _
    · simp
  · simp
theorem Lx.dv_from (t : Lx.Bs) : ∀ p ∈ (Lx.dv t).1, p.frm < p.to := by
  intro p hp
  unfold Lx.dv at hp
  split at hp
  · unfold Lx.divide at hp
    split at hp
    · exact (Lx.divs_from _ _ _ _ _ _ _ p hp).2
    · simp at hp
  · simp at hp
theorem Lx.dv_place (t : Lx.Bs) : ∀ p ∈ (Lx.dv t).1, Lx.adv (t.take p.frm) (1, 1) = (p.line, p.col) := by
  intro p hp
  unfold Lx.dv at hp
  split at hp
  · unfold Lx.divide at hp
    split at hp
    · exact Lx.divs_place t _ 0 t 1 1 0 0 rfl (Nat.zero_le _) rfl p hp
    · simp at hp
  · simp at hp

/-- Two neighbours: their ends and their places increase. -/
theorem Lx.dv_next {t : Lx.Bs} {i : Nat} {x y : Lx.Pc} (hx : (Lx.dv t).1[i]? = some x) (hy : (Lx.dv t).1[i + 1]? = some y) : x.to < y.to ∧ x.to ≤ y.frm ∧ Lx.ahead (x.line, x.col) (y.line, y.col) := by
  obtain ⟨hi, rfl⟩ := List.getElem?_eq_some_iff.1 hx
  obtain ⟨hj, rfl⟩ := List.getElem?_eq_some_iff.1 hy
  have h1 := List.pairwise_iff_getElem.1 (Lx.dv_pair t) i (i + 1) hi hj (by omega)
  have hxm := List.getElem_mem hi
  have hym := List.getElem_mem hj
  have h2 := Lx.dv_from t _ hxm
  have h3 := Lx.dv_from t _ hym
  have h4 := (Lx.dv_to t _ hym).2
  refine ⟨by omega, h1, ?_⟩
  rw [← Lx.dv_place t _ hxm, ← Lx.dv_place t _ hym]
  generalize (Lx.dv t).1[i] = x at *
  generalize (Lx.dv t).1[i + 1] = y at *
  obtain ⟨d, hd⟩ : ∃ d, y.frm = x.frm + d := ⟨y.frm - x.frm, by omega⟩
  rw [hd, List.take_add, Lx.adv_append]
  refine Lx.adv_ahead _ _ ?_
  intro e
  have := congrArg List.length e
  simp at this
  omega

end Go.Proofs.YtogmealngeejmaaGreatDoor

/- The plain law of spellings: a token is spelled as it stands; alone it is read again. -/
namespace Go.Proofs.YtogmealngeejmaaGreatDoor
open Go Go.RowKit

theorem Lx.strC_spelled {l : Lx.Bs} : ∀ {tx : Lx.Bs} {n : Nat}, Lx.strC l = some (tx, n) → Lx.dbl tx ++ [39] = l.take n ∧ tx.any Lx.odd = false := by
  induction hl : l.length using Nat.strongRecOn generalizing l with
  | _ k ih =>
    intro tx n h
    match l, h with
    | [], h => simp [Lx.strC] at h
    | [b], h =>
      simp only [Lx.strC] at h
      split at h
      · rename_i hb; cases h; subst hb; simp [Lx.dbl]
      · cases h
    | b :: b' :: l, h =>
      rw [Lx.strC] at h
      split at h
      · rename_i hb
        subst hb
        split at h
        · rename_i hb'
          subst hb'
          cases hs : Lx.strC l with
          | none => rw [hs] at h; cases h
          | some p =>
            rw [hs] at h
            cases h
            have := ih l.length (by rw [← hl]; simp; omega) rfl hs
            refine ⟨?_, ?_⟩
            · simp [Lx.dbl, this.1]
            · simp only [List.any_cons, this.2, Bool.or_false]; decide
        · cases h; simp [Lx.dbl]
      · split at h
        · rename_i hb hsb
          cases hs : Lx.strC (b' :: l) with
          | none => rw [hs] at h; cases h
          | some p =>
            rw [hs] at h
            cases h
            have := ih (b' :: l).length (by rw [← hl]; simp) rfl hs
            refine ⟨?_, ?_⟩
            · simp [Lx.dbl, hb, this.1]
            · simp only [List.any_cons, this.2, Bool.or_false]
              simp only [Lx.strb, Bool.and_eq_true, decide_eq_true_eq] at hsb
              simp [Lx.odd]; omega
        · cases h

theorem Lx.tok_spelled {j : Bool} {l : Lx.Bs} {k : Int} {tx : Lx.Bs} {m : Nat} (h0 : l ≠ []) (h : Lx.tok j l = .good k tx m) (line col : Int) :
    Lx.spelled ⟨k, tx, line, col⟩ = l.take m ∧ (k = 6 → tx.any Lx.odd = false) ∧ (k ≠ 6 → tx = l.take m) ∧ (k = 9 → tx = [46]) := by
  unfold Lx.tok at h
  split at h
  · unfold Lx.wordT at h
    simp only at h
    split at h
    · cases h
      have hc := Lx.colon_or l (Lx.run Lx.wordy l)
      refine ⟨?_, ?_, fun _ => rfl, ?_⟩
      · unfold Lx.spelled; simp only; rw [if_neg (by split <;> omega)]
      · intro h6; split at h6 <;> omega
      · intro h9; split at h9 <;> omega
    · cases h
  · split at h
    · unfold Lx.primT at h
      simp only at h
      split at h
      · cases h; exact ⟨by unfold Lx.spelled; simp, fun h => absurd h (by decide), fun _ => rfl, fun h => absurd h (by decide)⟩
      · cases h
    · split at h
      · unfold Lx.numT at h
        simp only at h
        split at h
        · cases h; exact ⟨by unfold Lx.spelled; simp, fun h => absurd h (by decide), fun _ => rfl, fun h => absurd h (by decide)⟩
        · cases h
      · split at h
        · rename_i hq
          unfold Lx.strT at h
          split at h
          · rename_i tx' n hs
            cases h
            have := Lx.strC_spelled hs
            refine ⟨?_, fun _ => this.2, fun h => absurd rfl h, fun h => absurd h (by decide)⟩
            cases l with
            | nil => exact absurd rfl h0
            | cons b l =>
              have hb : b = 39 := by
                have : b.toNat = 39 := by simp [Lx.nx] at hq; omega
                exact byte_is this
              subst hb
              unfold Lx.spelled
              simp only [List.drop_succ_cons, List.drop_zero] at this
              simp [this.1]
          · cases h
        · split at h
          · unfold Lx.opT at h
            simp only at h
            split at h
            · cases h; exact ⟨by unfold Lx.spelled; simp, fun h => absurd h (by decide), fun _ => rfl, fun h => absurd h (by decide)⟩
            · cases h
          · split at h
            · unfold Lx.signT at h
              cases h
              refine ⟨?_, ?_, fun _ => rfl, ?_⟩
              · unfold Lx.spelled; simp only; rw [if_neg (by split <;> omega)]
              · intro h6; split at h6 <;> omega
              · intro h9
                split at h9
                · rename_i hc
                  cases l with
                  | nil => exact absurd rfl h0
                  | cons b l => have : b = 46 := by simpa [Lx.nx] using hc.1
                                simp [this]
                · omega
            · cases h

end Go.Proofs.YtogmealngeejmaaGreatDoor
