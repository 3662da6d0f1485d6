import Derived.Test.YtogmealngeejmaaGreatDoorJoined18
import Derived.Test.YtogmealngeejmaaGreatDoorJoined21
/- The reference: strings. -/
namespace Go.Proofs.YtogmealngeejmaaGreatDoor
open Go Go.RowKit

theorem nx_of_drop {l : Lx.Bs} {j : Nat} {c : UInt8} (hd : l.drop j = c :: l.drop (j + 1)) : Lx.nx (l.drop j) 0 = c := by rw [hd]; simp [Lx.nx]

/-- What the token of a string is. -/
def Lx.strR : Option (Lx.Bs × Nat) → Lx.Tk
  | some (tx, n) => .good 6 tx (n + 1)
  | none => .bad 11
theorem Lx.strT_eq (l : Lx.Bs) : Lx.strT l = Lx.strR (Lx.strC (l.drop 1)) := by
  unfold Lx.strT Lx.strR; cases Lx.strC (l.drop 1) <;> rfl


set_option maxRecDepth 100000 in
set_option maxHeartbeats 4000000 in
theorem rQuoted_c (s : ByteArray) (a : Nat) (w : World) (hs : s.size ≤ 1100000) (ha : a < s.size) (_hc : s.data.toList.getD a 0 = 39) :
    Calls Tryz.prog 72 #[.string s, .int .i64 a] w fun e w' => RTok (Lx.strT (s.data.toList.drop a)) e ∧ Kp [] w w' := by
  obtain ⟨P0, hP0⟩ : ∃ P0 : Ending → World → Prop, P0 = fun e w' => RTok (Lx.strT (s.data.toList.drop a)) e ∧ Kp [] w w' := ⟨_, rfl⟩
  rw [← hP0]
  have HP0 := Lib.hid hP0; clear hP0
  have hl := size_list s
  have HST : Hid (Lx.strT (s.data.toList.drop a) = Lx.strR (Lx.strC (s.data.toList.drop (a + 1)))) := Lib.hid (by rw [Lx.strT_eq, List.drop_drop])
  obtain ⟨R, hR⟩ : ∃ R, R = Lx.strC (s.data.toList.drop (a + 1)) := ⟨_, rfl⟩
  rw [← hR] at HST
  have HR := Lib.hid hR; clear hR
  have z0 : IntKind.i64.wrap ((a : Int) + 1) = (a : Int) + 1 := Go.IntWalk.i64_in _ (by omega)
  go_enter Tryz.func72, Tryz.ntmps72
  go_wp2_with fail
  obtain ⟨b0, hbb0⟩ : ∃ b0, w.heap.size = b0 := ⟨_, rfl⟩
  rw [hbb0]
  have HBB := Lib.hid hbb0; clear hbb0
  go_loopg [8] (s.size - (a + 1)) (fun n x wr => ∃ (i : Nat) (tx : Lx.Bs), n = s.size - i ∧ x = .int .i64 ((i : Nat) : Int) ∧ a + 1 ≤ i ∧ i ≤ s.size ∧ tx.length ≤ i ∧
    Hid (R = (Lx.strC (s.data.toList.drop i)).map fun p => (tx ++ p.1, (i - (a + 1)) + p.2)) ∧ Kp [b0, b0 + 1] w wr ∧
    wr.heap[b0]? = some (.cells #[.int .i64 0, .string .empty, .int .i64 0, .int .i64 0] 34 (0, 0)) ∧
    wr.heap[b0 + 1]? = some (.cells #[.int .i64 6, .string ⟨tx.toArray⟩, .int .i64 0, .int .i64 0] 34 (0, 0)))
  case atStart =>
    refine ⟨a + 1, [], rfl, by simp, Nat.le_refl _, by omega, by simp, ?_, ((Kp.refl _ w).alloc _).alloc _, ?_, ?_⟩
    · rw [HR.out]
      cases Lx.strC (s.data.toList.drop (a + 1)) <;> simp [Hid]
    · rw [← HBB.out]; exact block_alloc (heap_alloc_new w _) _
    · rw [← HBB.out]
      have := heap_alloc_new (w.alloc (.cells #[.int .i64 0, .string .empty, .int .i64 0, .int .i64 0] 34)) (.cells #[.int .i64 6, .string ⟨#[]⟩, .int .i64 0, .int .i64 0] 34)
      rw [World.size_alloc] at this
      exact this
  case round =>
    obtain ⟨i, tx, rfl, rfl, hai, his, htx, HRI, hkp, hb0, hb1⟩ := hrel
    have c0 : wr.cell? ⟨b0 + 1, 0, none⟩ = some (.int .i64 6) := cell_of_block hb1 0
    have c1 : wr.cell? ⟨b0 + 1, 1, none⟩ = some (.string ⟨tx.toArray⟩) := cell_of_block hb1 1
    have c2 : wr.cell? ⟨b0 + 1, 2, none⟩ = some (.int .i64 0) := cell_of_block hb1 2
    have c3 : wr.cell? ⟨b0 + 1, 3, none⟩ = some (.int .i64 0) := cell_of_block hb1 3
    have d0 : wr.cell? ⟨b0, 0, none⟩ = some (.int .i64 0) := cell_of_block hb0 0
    have d1 : wr.cell? ⟨b0, 1, none⟩ = some (.string .empty) := cell_of_block hb0 1
    have d2 : wr.cell? ⟨b0, 2, none⟩ = some (.int .i64 0) := cell_of_block hb0 2
    have d3 : wr.cell? ⟨b0, 3, none⟩ = some (.int .i64 0) := cell_of_block hb0 3
    have f0 : ∀ o, wr.frozen? ⟨b0, o, none⟩ = false := free_of_block hb0
    have f1 : ∀ o, wr.frozen? ⟨b0 + 1, o, none⟩ = false := free_of_block hb1
    have l0 := lt_of_block hb0
    have l1 := lt_of_block hb1
    have HB0 := Lib.hid hb0
    have HB1 := Lib.hid hb1
    have HKP := Lib.hid hkp
    clear hb0 hb1 hkp
    by_cases hil : i < s.size
    · have b1 : decide ((i : Int) < s.size) = true := decide_eq_true (by omega)
      obtain ⟨c, hc⟩ : ∃ c, s.data.toList.getD i 0 = c := ⟨_, rfl⟩
      have hix := ix_byte s i hil hc
      have hd := drop_getD (l := s.data.toList) (j := i) (by rw [hl]; exact hil)
      rw [hc] at hd
      have hcl := byte_lt c
      have HD := Lib.hid hd; clear hd hc
      by_cases h32 : c.toNat < 32
      · have q1 : decide (((c.toNat : Nat) : Int) < 32) = true := decide_eq_true (by omega)
        have HNO : Hid (R = none) := Lib.hid (by
          rw [HRI.out, Lx.strC_none (by rw [nx_of_drop HD.out]; intro e; rw [e] at h32; exact absurd h32 (by decide)) (by
            intro b l' e
            rw [HD.out] at e
            cases e
            simp only [Lx.strb, Bool.and_eq_false_iff, decide_eq_false_iff_not]
            left; left; omega)]; rfl)
        go_wp2_with fail
        obtain ⟨V, hV⟩ : ∃ V, V = ((((wr.setCell ⟨b0, 0, none⟩ (.int .i64 6)).setCell ⟨b0, 1, none⟩ (.string ⟨tx.toArray⟩)).setCell ⟨b0, 2, none⟩ (.int .i64 0)).setCell ⟨b0, 3, none⟩ (.int .i64 0)) := ⟨_, rfl⟩
        have hb := block_setCell (block_setCell (block_setCell (block_setCell HB0.out 0 (.int .i64 6)) 1 (.string ⟨tx.toArray⟩)) 2 (.int .i64 0)) 3 (.int .i64 0)
        have hkV := (((HKP.out.setCell (p := ⟨b0, 0, none⟩) (.inl (by simp)) (.int .i64 6)).setCell (p := ⟨b0, 1, none⟩) (.inl (by simp)) (.string ⟨tx.toArray⟩)).setCell (p := ⟨b0, 2, none⟩) (.inl (by simp)) (.int .i64 0)).setCell (p := ⟨b0, 3, none⟩) (.inl (by simp)) (.int .i64 0)
        rw [← hV] at hb hkV ⊢
        have v0 := cell_of_block hb 0
        have v1 := cell_of_block hb 1
        have v2 := cell_of_block hb 2
        have v3 := cell_of_block hb 3
        simp at v0 v1 v2 v3
        have HKV := Lib.hid ((Kp.refl [] w).trans' hkV (by intro x hx; simp at hx; right; rw [HBB.out]; omega))
        refine bodyPost_ret (v := .tuple #[.agg #[.int .i64 6, .string ⟨tx.toArray⟩, .int .i64 0, .int .i64 0], .int .i64 0, .int .i64 11]) (by simp [results, Tryz.results72, go_sem, v0, v1, v2, v3]) rfl ?_
        rw [HP0.out]
        refine ⟨?_, HKV.out⟩
        rw [HST.out]
        rw [HNO.out]
        exact ⟨⟨6, tx, 0, 0⟩, 0, rfl⟩
      · have q1 : decide (((c.toNat : Nat) : Int) < 32) = false := decide_eq_false (by omega)
        by_cases h126 : 126 < c.toNat
        · have q2 : decide ((126 : Int) < ((c.toNat : Nat) : Int)) = true := decide_eq_true (by omega)
          have HNO : Hid (R = none) := Lib.hid (by
            rw [HRI.out, Lx.strC_none (by rw [nx_of_drop HD.out]; intro e; rw [e] at h126; exact absurd h126 (by decide)) (by
              intro b l' e
              rw [HD.out] at e
              cases e
              simp only [Lx.strb, Bool.and_eq_false_iff, decide_eq_false_iff_not]
              left; right; omega)]; rfl)
          go_wp2_with fail
          obtain ⟨V, hV⟩ : ∃ V, V = ((((wr.setCell ⟨b0, 0, none⟩ (.int .i64 6)).setCell ⟨b0, 1, none⟩ (.string ⟨tx.toArray⟩)).setCell ⟨b0, 2, none⟩ (.int .i64 0)).setCell ⟨b0, 3, none⟩ (.int .i64 0)) := ⟨_, rfl⟩
          have hb := block_setCell (block_setCell (block_setCell (block_setCell HB0.out 0 (.int .i64 6)) 1 (.string ⟨tx.toArray⟩)) 2 (.int .i64 0)) 3 (.int .i64 0)
          have hkV := (((HKP.out.setCell (p := ⟨b0, 0, none⟩) (.inl (by simp)) (.int .i64 6)).setCell (p := ⟨b0, 1, none⟩) (.inl (by simp)) (.string ⟨tx.toArray⟩)).setCell (p := ⟨b0, 2, none⟩) (.inl (by simp)) (.int .i64 0)).setCell (p := ⟨b0, 3, none⟩) (.inl (by simp)) (.int .i64 0)
          rw [← hV] at hb hkV ⊢
          have v0 := cell_of_block hb 0
          have v1 := cell_of_block hb 1
          have v2 := cell_of_block hb 2
          have v3 := cell_of_block hb 3
          simp at v0 v1 v2 v3
          have HKV := Lib.hid ((Kp.refl [] w).trans' hkV (by intro x hx; simp at hx; right; rw [HBB.out]; omega))
          refine bodyPost_ret (v := .tuple #[.agg #[.int .i64 6, .string ⟨tx.toArray⟩, .int .i64 0, .int .i64 0], .int .i64 0, .int .i64 11]) (by simp [results, Tryz.results72, go_sem, v0, v1, v2, v3]) rfl ?_
          rw [HP0.out]
          refine ⟨?_, HKV.out⟩
          rw [HST.out]
          rw [HNO.out]
          exact ⟨⟨6, tx, 0, 0⟩, 0, rfl⟩
        · have q2 : decide ((126 : Int) < ((c.toNat : Nat) : Int)) = false := decide_eq_false (by omega)
          have z1 : IntKind.i64.wrap ((i : Int) + 1) = (i : Int) + 1 := Go.IntWalk.i64_in _ (by omega)
          by_cases h39 : c = 39
          · have q3 : (((c.toNat : Nat) : Int) != 39) = false := by simp [h39]
            by_cases hi1 : i + 1 < s.size
            · have q4 : ((i : Int) + 1 == s.size) = false := by simpa using fun h => by omega
              obtain ⟨d, hdc⟩ : ∃ d, s.data.toList.getD (i + 1) 0 = d := ⟨_, rfl⟩
              have hix2 := ix_byte s (i + 1) hi1 hdc
              rw [show ((i + 1 : Nat) : Int) = (i : Int) + 1 by omega] at hix2
              have hd2 := drop_getD (l := s.data.toList) (j := i + 1) (by rw [hl]; exact hi1)
              rw [hdc] at hd2
              have HD2 := Lib.hid hd2; clear hd2 hdc
              have hdl := byte_lt d
              by_cases hd39 : d = 39
              · have q5 : (((d.toNat : Nat) : Int) != 39) = false := by simp [hd39]
                have HN : Hid (R = (Lx.strC (s.data.toList.drop (i + 2))).map fun p => ((tx ++ [39]) ++ p.1, ((i + 2) - (a + 1)) + p.2)) := Lib.hid (by
                  rw [HRI.out, Lx.strC_two (by rw [nx_of_drop HD.out, h39]) (by rw [List.drop_drop, nx_of_drop HD2.out, hd39]), List.drop_drop]
                  cases Lx.strC (s.data.toList.drop (i + 2)) with
                  | none => rfl
                  | some p => simp; omega)
                have HEX : Hid ((⟨tx.toArray⟩ : ByteArray) ++ ⟨#[39]⟩ = ⟨(tx ++ [39]).toArray⟩) := Lib.hid (by
                  rw [← bytes_append])
                have hts : (⟨tx.toArray⟩ : ByteArray).size ≤ 1200000 := by simp [ByteArray.size]; omega
                have z3 : IntKind.i64.wrap ((i : Int) + 1 + 1) = (i : Int) + 1 + 1 := Go.IntWalk.i64_in _ (by omega)
                clear h39 hd39
                go_wp2_with fail
                rw [HEX.out]
                go_roundg (s.size - (i + 2))
                case measure => omega
                case rel =>
                  refine ⟨i + 2, tx ++ [39], rfl, by (simp; omega), by omega, by omega, by simp; omega, HN, ?_, ?_, ?_⟩
                  · exact HKP.out.setCell (p := ⟨b0 + 1, 1, none⟩) (.inl (by simp)) _
                  · exact block_other HB0.out (by simp) _
                  · have := block_setCell HB1.out 1 (.string ⟨(tx ++ [39]).toArray⟩)
                    have t2 : (wr.setCell ⟨b0 + 1, 1, none⟩ (.string ⟨(tx ++ [39]).toArray⟩)).heap[b0 + 1]? = some (.cells #[.int .i64 6, .string ⟨(tx ++ [39]).toArray⟩, .int .i64 0, .int .i64 0] 34 (0, 0)) := by simpa using this
                    exact t2
              · have q5 : (((d.toNat : Nat) : Int) != 39) = true := by
                  have : d.toNat ≠ 39 := fun e => hd39 ((byte_is e).trans rfl)
                  simpa using fun h => this (by omega)
                have HYE : Hid (R = some (tx, (i - (a + 1)) + 1)) := Lib.hid (by
                  rw [HRI.out, Lx.strC_end (by rw [nx_of_drop HD.out, h39]) (by
                    rw [List.drop_drop, nx_of_drop HD2.out]; exact hd39)]
                  simp)
                have z2 : IntKind.i64.wrap ((i : Int) + 1 - a) = (i : Int) + 1 - a := Go.IntWalk.i64_in _ (by omega)
                clear h39 hd39
                go_wp2_with fail
                obtain ⟨V, hV⟩ : ∃ V, V = ((((wr.setCell ⟨b0, 0, none⟩ (.int .i64 6)).setCell ⟨b0, 1, none⟩ (.string ⟨tx.toArray⟩)).setCell ⟨b0, 2, none⟩ (.int .i64 0)).setCell ⟨b0, 3, none⟩ (.int .i64 0)) := ⟨_, rfl⟩
                have hb := block_setCell (block_setCell (block_setCell (block_setCell HB0.out 0 (.int .i64 6)) 1 (.string ⟨tx.toArray⟩)) 2 (.int .i64 0)) 3 (.int .i64 0)
                have hkV := (((HKP.out.setCell (p := ⟨b0, 0, none⟩) (.inl (by simp)) (.int .i64 6)).setCell (p := ⟨b0, 1, none⟩) (.inl (by simp)) (.string ⟨tx.toArray⟩)).setCell (p := ⟨b0, 2, none⟩) (.inl (by simp)) (.int .i64 0)).setCell (p := ⟨b0, 3, none⟩) (.inl (by simp)) (.int .i64 0)
                rw [← hV] at hb hkV ⊢
                have v0 := cell_of_block hb 0
                have v1 := cell_of_block hb 1
                have v2 := cell_of_block hb 2
                have v3 := cell_of_block hb 3
                simp at v0 v1 v2 v3
                have HKV := Lib.hid ((Kp.refl [] w).trans' hkV (by intro x hx; simp at hx; right; rw [HBB.out]; omega))
                refine bodyPost_ret (v := .tuple #[.agg #[.int .i64 6, .string ⟨tx.toArray⟩, .int .i64 0, .int .i64 0], .int .i64 ((i : Int) + 1 - a), .int .i64 0]) (by simp [results, Tryz.results72, go_sem, v0, v1, v2, v3]) rfl ?_
                rw [HP0.out]
                refine ⟨?_, HKV.out⟩
                rw [HST.out]
                rw [HYE.out]
                unfold Lx.strR RTok
                simp only
                rw [show (i : Int) + 1 - a = ((i - (a + 1) + 1 + 1 : Nat) : Int) by omega]
            · have q4 : ((i : Int) + 1 == s.size) = true := by simpa using (by omega : (i : Int) + 1 = s.size)
              have HYE : Hid (R = some (tx, (i - (a + 1)) + 1)) := Lib.hid (by
                rw [HRI.out, Lx.strC_end (by rw [nx_of_drop HD.out, h39]) (by
                  rw [List.drop_drop, List.drop_eq_nil_of_le (by rw [hl]; omega)]; decide)]
                simp)
              have z2 : IntKind.i64.wrap ((i : Int) + 1 - a) = (i : Int) + 1 - a := Go.IntWalk.i64_in _ (by omega)
              clear h39
              go_wp2_with fail
              obtain ⟨V, hV⟩ : ∃ V, V = ((((wr.setCell ⟨b0, 0, none⟩ (.int .i64 6)).setCell ⟨b0, 1, none⟩ (.string ⟨tx.toArray⟩)).setCell ⟨b0, 2, none⟩ (.int .i64 0)).setCell ⟨b0, 3, none⟩ (.int .i64 0)) := ⟨_, rfl⟩
              have hb := block_setCell (block_setCell (block_setCell (block_setCell HB0.out 0 (.int .i64 6)) 1 (.string ⟨tx.toArray⟩)) 2 (.int .i64 0)) 3 (.int .i64 0)
              have hkV := (((HKP.out.setCell (p := ⟨b0, 0, none⟩) (.inl (by simp)) (.int .i64 6)).setCell (p := ⟨b0, 1, none⟩) (.inl (by simp)) (.string ⟨tx.toArray⟩)).setCell (p := ⟨b0, 2, none⟩) (.inl (by simp)) (.int .i64 0)).setCell (p := ⟨b0, 3, none⟩) (.inl (by simp)) (.int .i64 0)
              rw [← hV] at hb hkV ⊢
              have v0 := cell_of_block hb 0
              have v1 := cell_of_block hb 1
              have v2 := cell_of_block hb 2
              have v3 := cell_of_block hb 3
              simp at v0 v1 v2 v3
              have HKV := Lib.hid ((Kp.refl [] w).trans' hkV (by intro x hx; simp at hx; right; rw [HBB.out]; omega))
              refine bodyPost_ret (v := .tuple #[.agg #[.int .i64 6, .string ⟨tx.toArray⟩, .int .i64 0, .int .i64 0], .int .i64 ((i : Int) + 1 - a), .int .i64 0]) (by simp [results, Tryz.results72, go_sem, v0, v1, v2, v3]) rfl ?_
              rw [HP0.out]
              refine ⟨?_, HKV.out⟩
              rw [HST.out]
              rw [HYE.out]
              unfold Lx.strR RTok
              simp only
              rw [show (i : Int) + 1 - a = ((i - (a + 1) + 1 + 1 : Nat) : Int) by omega]
          · have q3 : (((c.toNat : Nat) : Int) != 39) = true := by
              have : c.toNat ≠ 39 := fun e => h39 ((byte_is e).trans rfl)
              simpa using fun h => this (by omega)
            have hst : Lx.strb c = true := by
              have : c.toNat ≠ 39 := fun e => h39 ((byte_is e).trans rfl)
              simp only [Lx.strb, Bool.and_eq_true, decide_eq_true_eq, bne_iff_ne, ne_eq]; omega
            have HN : Hid (R = (Lx.strC (s.data.toList.drop (i + 1))).map fun p => ((tx ++ [c]) ++ p.1, ((i + 1) - (a + 1)) + p.2)) := Lib.hid (by
              rw [HRI.out, HD.out, Lx.strC_more hst]
              cases Lx.strC (s.data.toList.drop (i + 1)) with
              | none => rfl
              | some p => simp; omega)
            have HEX : Hid ((⟨tx.toArray⟩ : ByteArray) ++ s.extract i (i + 1) = ⟨(tx ++ [c]).toArray⟩) := Lib.hid (by
              rw [ext_take, HD.out, ← bytes_append]
              simp)
            have hts : (⟨tx.toArray⟩ : ByteArray).size ≤ 1200000 := by simp [ByteArray.size]; omega
            clear h39 hst
            go_wp2_with fail
            go_region
            rw [HEX.out]
            go_wp2_with fail
            go_roundg (s.size - (i + 1))
            case measure => omega
            case rel =>
              refine ⟨i + 1, tx ++ [c], rfl, by simp, by omega, by omega, by simp; omega, HN, ?_, ?_, ?_⟩
              · exact (HKP.out.setCell (p := ⟨b0 + 1, 1, none⟩) (.inl (by simp)) _).drew
              · exact block_other HB0.out (by simp) _
              · have := block_setCell HB1.out 1 (.string ⟨(tx ++ [c]).toArray⟩)
                have t2 : (wr.setCell ⟨b0 + 1, 1, none⟩ (.string ⟨(tx ++ [c]).toArray⟩)).heap[b0 + 1]? = some (.cells #[.int .i64 6, .string ⟨(tx ++ [c]).toArray⟩, .int .i64 0, .int .i64 0] 34 (0, 0)) := by simpa using this
                exact t2
    · have b1 : decide ((i : Int) < s.size) = false := decide_eq_false (by omega)
      have HNO : Hid (R = none) := Lib.hid (by rw [HRI.out, List.drop_eq_nil_of_le (by rw [hl]; omega)]; rfl)
      go_wp2_with fail
      obtain ⟨V, hV⟩ : ∃ V, V = ((((wr.setCell ⟨b0, 0, none⟩ (.int .i64 6)).setCell ⟨b0, 1, none⟩ (.string ⟨tx.toArray⟩)).setCell ⟨b0, 2, none⟩ (.int .i64 0)).setCell ⟨b0, 3, none⟩ (.int .i64 0)) := ⟨_, rfl⟩
      have hb := block_setCell (block_setCell (block_setCell (block_setCell HB0.out 0 (.int .i64 6)) 1 (.string ⟨tx.toArray⟩)) 2 (.int .i64 0)) 3 (.int .i64 0)
      have hkV := (((HKP.out.setCell (p := ⟨b0, 0, none⟩) (.inl (by simp)) (.int .i64 6)).setCell (p := ⟨b0, 1, none⟩) (.inl (by simp)) (.string ⟨tx.toArray⟩)).setCell (p := ⟨b0, 2, none⟩) (.inl (by simp)) (.int .i64 0)).setCell (p := ⟨b0, 3, none⟩) (.inl (by simp)) (.int .i64 0)
      rw [← hV] at hb hkV ⊢
      have v0 := cell_of_block hb 0
      have v1 := cell_of_block hb 1
      have v2 := cell_of_block hb 2
      have v3 := cell_of_block hb 3
      simp at v0 v1 v2 v3
      have HKV := Lib.hid ((Kp.refl [] w).trans' hkV (by intro x hx; simp at hx; right; rw [HBB.out]; omega))
      refine bodyPost_ret (v := .tuple #[.agg #[.int .i64 6, .string ⟨tx.toArray⟩, .int .i64 0, .int .i64 0], .int .i64 0, .int .i64 11]) (by simp [results, Tryz.results72, go_sem, v0, v1, v2, v3]) rfl ?_
      rw [HP0.out]
      refine ⟨?_, HKV.out⟩
      rw [HST.out]
      rw [HNO.out]
      exact ⟨⟨6, tx, 0, 0⟩, 0, rfl⟩

end Go.Proofs.YtogmealngeejmaaGreatDoor

/- The reference: the first token. -/
namespace Go.Proofs.YtogmealngeejmaaGreatDoor
open Go Go.RowKit

theorem digit_in (c : UInt8) : (#[48, 49, 50, 51, 52, 53, 54, 55, 56, 57] : Array UInt8).toList.contains c = Lx.digit c := by
  have h : ∀ n : UInt8, (c == n) = decide (c.toNat = n.toNat) := by
    intro n
    by_cases e : c = n
    · subst e; simp
    · have : c.toNat ≠ n.toNat := fun h => e (UInt8.toNat_inj.1 h)
      simp [e, this]
  unfold Lx.digit
  simp only [List.contains_cons, List.contains_nil, h, Bool.or_false]
  rw [Bool.eq_iff_iff]
  simp only [Bool.or_eq_true, decide_eq_true_eq, Bool.and_eq_true]
  show (c.toNat = 48 ∨ c.toNat = 49 ∨ c.toNat = 50 ∨ c.toNat = 51 ∨ c.toNat = 52 ∨ c.toNat = 53 ∨ c.toNat = 54 ∨ c.toNat = 55 ∨ c.toNat = 56 ∨ c.toNat = 57) ↔ _
  omega

theorem rSomeDigit_c (s : ByteArray) (a : Nat) (w : World) (hs : s.size ≤ 1100000) (ha : a ≤ s.size) : Calls Tryz.prog 74 #[.string s, .int .i64 a, .string ⟨#[48, 49, 50, 51, 52, 53, 54, 55, 56, 57]⟩] w fun e w' => e = .returned (.int .i64 (Lx.run Lx.digit (s.data.toList.drop a) : Nat)) ∧ w = w' := by
  have h := rSome_c s a ⟨#[48, 49, 50, 51, 52, 53, 54, 55, 56, 57]⟩ w hs ha (by decide)
  have e : (⟨#[48, 49, 50, 51, 52, 53, 54, 55, 56, 57]⟩ : ByteArray).data.toList.contains = Lx.digit := funext digit_in
  rwa [e] at h
theorem rSomeOp_c (s : ByteArray) (a : Nat) (w : World) (hs : s.size ≤ 1100000) (ha : a ≤ s.size) : Calls Tryz.prog 74 #[.string s, .int .i64 a, .string ⟨#[43, 45, 42, 47, 37, 60, 62, 61, 126, 38, 64, 33, 63]⟩] w fun e w' => e = .returned (.int .i64 (Lx.run Lx.isop (s.data.toList.drop a) : Nat)) ∧ w = w' :=
  rSome_c s a ⟨#[43, 45, 42, 47, 37, 60, 62, 61, 126, 38, 64, 33, 63]⟩ w hs ha (by decide)
theorem rInOp_c (c : UInt8) (w : World) : Calls Tryz.prog 38 #[.int .u8 c.toNat, .string ⟨#[43, 45, 42, 47, 37, 60, 62, 61, 126, 38, 64, 33, 63]⟩] w fun e w' => e = .returned (.bool (Lx.isop c)) ∧ w = w' :=
  rIn_c c ⟨#[43, 45, 42, 47, 37, 60, 62, 61, 126, 38, 64, 33, 63]⟩ w (by decide)
theorem rInSign_c (c : UInt8) (w : World) : Calls Tryz.prog 38 #[.int .u8 c.toNat, .string ⟨#[40, 41, 91, 93, 124, 46, 94, 58, 59]⟩] w fun e w' => e = .returned (.bool (Lx.issign c)) ∧ w = w' :=
  rIn_c c ⟨#[40, 41, 91, 93, 124, 46, 94, 58, 59]⟩ w (by decide)




set_option maxRecDepth 100000 in
set_option maxHeartbeats 4000000 in
theorem rFirst_c (s : ByteArray) (a : Nat) (w : World) (hs : s.size ≤ 1100000) (ha : a < s.size) :
    Calls Tryz.prog 44 #[.string s, .int .i64 a] w fun e w' => RTok (Lx.tok false (s.data.toList.drop a)) e ∧ Kp [] w w' := by
  obtain ⟨P0, hP0⟩ : ∃ P0 : Ending → World → Prop, P0 = fun e w' => RTok (Lx.tok false (s.data.toList.drop a)) e ∧ Kp [] w w' := ⟨_, rfl⟩
  rw [← hP0]
  have HP0 := Lib.hid hP0; clear hP0
  have hl := size_list s
  obtain ⟨c, hc⟩ : ∃ c, s.data.toList.getD a 0 = c := ⟨_, rfl⟩
  have hix := ix_byte s a ha hc
  have hcl := byte_lt c
  have hnx := Lx.nx_drop0 s.data.toList a
  rw [hc] at hnx
  have hT : Lx.tok false (s.data.toList.drop a) = Lx.tok false (s.data.toList.drop a) := rfl
  conv at hT => rhs; unfold Lx.tok
  rw [hnx] at hT
  go_enter Tryz.func44, Tryz.ntmps44
  cases hle : Lx.letter c
  · by_cases h95 : c = 95
    · have q1 : (((c.toNat : Nat) : Int) == 95) = true := by simp [h95]
      rw [if_neg (by rw [hle]; decide), if_pos q1] at hT
      have hcall := fun w => rWordlyP_c s a w hs ha (hc.trans h95)
      have HLE := Lib.hid hle; clear hle hc hnx h95
      have hcall := hcall (w.alloc (.cells #[.int .i64 0, .string .empty, .int .i64 0, .int .i64 0] 34))
      obtain ⟨TR, hTR⟩ : ∃ TR, Lx.tok false (s.data.toList.drop a) = TR := ⟨_, rfl⟩
      rw [hT] at hTR
      rw [hTR] at hcall
      have HTR : Hid (Lx.tok false (s.data.toList.drop a) = TR) := Lib.hid (hT.trans hTR)
      have HCL := Lib.hid hcall; clear hcall hT hTR
      go_wp2_with fail
      refine (rLetter_c c _).mono ?_
      rintro e w' ⟨rfl, rfl⟩
      rw [HLE.out]
      go_wp2_with fail
      refine HCL.out.mono ?_
      rintro e w1 ⟨hrt, hk1⟩
      have hb := hk1.heap (heap_alloc_new w (.cells #[.int .i64 0, .string .empty, .int .i64 0, .int .i64 0] 34)) (by simp)
      have HK1 := Lib.hid (((Kp.refl [] w).alloc _).trans hk1); clear hk1
      obtain ⟨b0, hb0⟩ : ∃ b0, w.heap.size = b0 := ⟨_, rfl⟩
      rw [hb0] at hb ⊢
      have HB := Lib.hid hb
      have HB0 := Lib.hid hb0; clear hb0
      have d0 := cell_of_block hb 0
      have d1 := cell_of_block hb 1
      have d2 := cell_of_block hb 2
      have d3 := cell_of_block hb 3
      simp at d0 d1 d2 d3
      have f0 : ∀ o, w1.frozen? ⟨b0, o, none⟩ = false := free_of_block hb
      have l0 := lt_of_block hb
      clear hb
      have hex : ∃ (x : Tok) (n er : Int), e = .returned (.tuple #[.agg #[.int .i64 x.kind, .string ⟨x.text.toArray⟩, .int .i64 x.line, .int .i64 x.col], .int .i64 n, .int .i64 er]) := by
        cases TR with
        | good k tx m => exact ⟨⟨k, tx, 0, 0⟩, m, 0, hrt⟩
        | bad er => obtain ⟨x, n, h⟩ := hrt; exact ⟨x, n, er, h⟩
      obtain ⟨x, n, er, rfl⟩ := hex
      have HRT := Lib.hid hrt; clear hrt
      go_wp2_with fail
      obtain ⟨V, hV⟩ : ∃ V, V = ((((w1.setCell ⟨b0, 0, none⟩ (.int .i64 x.kind)).setCell ⟨b0, 1, none⟩ (.string ⟨x.text.toArray⟩)).setCell ⟨b0, 2, none⟩ (.int .i64 x.line)).setCell ⟨b0, 3, none⟩ (.int .i64 x.col)) := ⟨_, rfl⟩
      have hb := block_setCell (block_setCell (block_setCell (block_setCell HB.out 0 (.int .i64 x.kind)) 1 (.string ⟨x.text.toArray⟩)) 2 (.int .i64 x.line)) 3 (.int .i64 x.col)
      have hge : w.heap.size ≤ b0 := Nat.le_of_eq HB0.out
      have hkV := (((HK1.out.setCell (p := ⟨b0, 0, none⟩) (.inr hge) (.int .i64 x.kind)).setCell (p := ⟨b0, 1, none⟩) (.inr hge) (.string ⟨x.text.toArray⟩)).setCell (p := ⟨b0, 2, none⟩) (.inr hge) (.int .i64 x.line)).setCell (p := ⟨b0, 3, none⟩) (.inr hge) (.int .i64 x.col)
      rw [← hV] at hb hkV ⊢
      have v0 := cell_of_block hb 0
      have v1 := cell_of_block hb 1
      have v2 := cell_of_block hb 2
      have v3 := cell_of_block hb 3
      simp at v0 v1 v2 v3
      refine bodyPost_ret (v := .tuple #[.agg #[.int .i64 x.kind, .string ⟨x.text.toArray⟩, .int .i64 x.line, .int .i64 x.col], .int .i64 n, .int .i64 er]) (by simp [results, Tryz.results44, go_sem, v0, v1, v2, v3]) rfl ?_
      rw [HP0.out, HTR.out]
      exact ⟨HRT.out, hkV⟩
    · have q1 : (((c.toNat : Nat) : Int) == 95) = false := by
        have : c.toNat ≠ 95 := fun e => h95 ((byte_is e).trans rfl)
        simpa using fun h => this (by omega)
      rw [if_neg (by rw [hle]; decide), if_neg (by rw [q1]; decide)] at hT
      by_cases h39 : c = 39
      · have q2 : (((c.toNat : Nat) : Int) == 39) = true := by simp [h39]
        rw [if_neg (by rw [h39]; decide), if_pos q2] at hT
        have hcall := fun w => rQuoted_c s a w hs ha (hc.trans h39)
        have HLE := Lib.hid hle; clear hle hc hnx h39 h95
        have hcall := hcall (w.alloc (.cells #[.int .i64 0, .string .empty, .int .i64 0, .int .i64 0] 34))
        obtain ⟨TR, hTR⟩ : ∃ TR, Lx.tok false (s.data.toList.drop a) = TR := ⟨_, rfl⟩
        rw [hT] at hTR
        rw [hTR] at hcall
        have HTR : Hid (Lx.tok false (s.data.toList.drop a) = TR) := Lib.hid (hT.trans hTR)
        have HCL := Lib.hid hcall; clear hcall hT hTR
        go_wp2_with fail
        refine (rLetter_c c _).mono ?_
        rintro e w' ⟨rfl, rfl⟩
        rw [HLE.out]
        go_wp2_with fail
        refine HCL.out.mono ?_
        rintro e w1 ⟨hrt, hk1⟩
        have hb := hk1.heap (heap_alloc_new w (.cells #[.int .i64 0, .string .empty, .int .i64 0, .int .i64 0] 34)) (by simp)
        have HK1 := Lib.hid (((Kp.refl [] w).alloc _).trans hk1); clear hk1
        obtain ⟨b0, hb0⟩ : ∃ b0, w.heap.size = b0 := ⟨_, rfl⟩
        rw [hb0] at hb ⊢
        have HB := Lib.hid hb
        have HB0 := Lib.hid hb0; clear hb0
        have d0 := cell_of_block hb 0
        have d1 := cell_of_block hb 1
        have d2 := cell_of_block hb 2
        have d3 := cell_of_block hb 3
        simp at d0 d1 d2 d3
        have f0 : ∀ o, w1.frozen? ⟨b0, o, none⟩ = false := free_of_block hb
        have l0 := lt_of_block hb
        clear hb
        have hex : ∃ (x : Tok) (n er : Int), e = .returned (.tuple #[.agg #[.int .i64 x.kind, .string ⟨x.text.toArray⟩, .int .i64 x.line, .int .i64 x.col], .int .i64 n, .int .i64 er]) := by
          cases TR with
          | good k tx m => exact ⟨⟨k, tx, 0, 0⟩, m, 0, hrt⟩
          | bad er => obtain ⟨x, n, h⟩ := hrt; exact ⟨x, n, er, h⟩
        obtain ⟨x, n, er, rfl⟩ := hex
        have HRT := Lib.hid hrt; clear hrt
        go_wp2_with fail
        obtain ⟨V, hV⟩ : ∃ V, V = ((((w1.setCell ⟨b0, 0, none⟩ (.int .i64 x.kind)).setCell ⟨b0, 1, none⟩ (.string ⟨x.text.toArray⟩)).setCell ⟨b0, 2, none⟩ (.int .i64 x.line)).setCell ⟨b0, 3, none⟩ (.int .i64 x.col)) := ⟨_, rfl⟩
        have hb := block_setCell (block_setCell (block_setCell (block_setCell HB.out 0 (.int .i64 x.kind)) 1 (.string ⟨x.text.toArray⟩)) 2 (.int .i64 x.line)) 3 (.int .i64 x.col)
        have hge : w.heap.size ≤ b0 := Nat.le_of_eq HB0.out
        have hkV := (((HK1.out.setCell (p := ⟨b0, 0, none⟩) (.inr hge) (.int .i64 x.kind)).setCell (p := ⟨b0, 1, none⟩) (.inr hge) (.string ⟨x.text.toArray⟩)).setCell (p := ⟨b0, 2, none⟩) (.inr hge) (.int .i64 x.line)).setCell (p := ⟨b0, 3, none⟩) (.inr hge) (.int .i64 x.col)
        rw [← hV] at hb hkV ⊢
        have v0 := cell_of_block hb 0
        have v1 := cell_of_block hb 1
        have v2 := cell_of_block hb 2
        have v3 := cell_of_block hb 3
        simp at v0 v1 v2 v3
        refine bodyPost_ret (v := .tuple #[.agg #[.int .i64 x.kind, .string ⟨x.text.toArray⟩, .int .i64 x.line, .int .i64 x.col], .int .i64 n, .int .i64 er]) (by simp [results, Tryz.results44, go_sem, v0, v1, v2, v3]) rfl ?_
        rw [HP0.out, HTR.out]
        exact ⟨HRT.out, hkV⟩
      · have q2 : (((c.toNat : Nat) : Int) == 39) = false := by
          have : c.toNat ≠ 39 := fun e => h39 ((byte_is e).trans rfl)
          simpa using fun h => this (by omega)
        cases hdg : Lx.digit c
        · rw [if_neg (by rw [hdg]; decide), if_neg (by rw [q2]; decide)] at hT
          cases hop : Lx.isop c
          · rw [if_neg (by rw [hop]; decide)] at hT
            cases hsg : Lx.issign c
            · rw [if_neg (by rw [hsg]; decide)] at hT
              have HT := Lib.hid hT; clear hT
              have HLE := Lib.hid hle; clear hle hc hnx
              have HDG := Lib.hid hdg; clear hdg
              have HOP := Lib.hid hop; clear hop
              have HSG := Lib.hid hsg; clear hsg h39 h95
              go_wp2_with fail
              refine (rLetter_c c _).mono ?_
              rintro e w' ⟨rfl, rfl⟩
              rw [HLE.out]
              go_wp2_with fail
              refine (rDigit_c c _).mono ?_
              rintro e w' ⟨rfl, rfl⟩
              rw [HDG.out]
              go_wp2_with fail
              refine (rInOp_c c _).mono ?_
              rintro e w' ⟨rfl, rfl⟩
              rw [HOP.out]
              go_wp2_with fail
              refine (rInSign_c c _).mono ?_
              rintro e w' ⟨rfl, rfl⟩
              rw [HSG.out]
              go_wp2_with fail
              refine bodyPost_ret (v := .tuple #[.agg #[.int .i64 0, .string ⟨#[]⟩, .int .i64 0, .int .i64 0], .int .i64 0, .int .i64 10]) (by simp [results, Tryz.results44, go_sem]) rfl ?_
              rw [HP0.out]
              refine ⟨?_, (Kp.refl [] w).alloc _⟩
              rw [HT.out]
              exact ⟨⟨0, [], 0, 0⟩, 0, rfl⟩
            · rw [if_pos hsg] at hT
              unfold Lx.signT at hT
              rw [if_neg (by simp)] at hT
              have HT := Lib.hid hT; clear hT
              have HLE := Lib.hid hle; clear hle hc hnx
              have HDG := Lib.hid hdg; clear hdg
              have HOP := Lib.hid hop; clear hop
              have HSG := Lib.hid hsg; clear hsg h39 h95
              have z1 : IntKind.i64.wrap ((a : Int) + 1) = (a : Int) + 1 := Go.IntWalk.i64_in _ (by omega)
              have z2 : (a : Int) + 1 ≤ s.size := by omega
              go_wp2_with fail
              refine (rLetter_c c _).mono ?_
              rintro e w' ⟨rfl, rfl⟩
              rw [HLE.out]
              go_wp2_with fail
              refine (rDigit_c c _).mono ?_
              rintro e w' ⟨rfl, rfl⟩
              rw [HDG.out]
              go_wp2_with fail
              refine (rInOp_c c _).mono ?_
              rintro e w' ⟨rfl, rfl⟩
              rw [HOP.out]
              go_wp2_with fail
              refine (rInSign_c c _).mono ?_
              rintro e w' ⟨rfl, rfl⟩
              rw [HSG.out]
              go_wp2_with fail
              refine bodyPost_ret (v := .tuple #[.agg #[.int .i64 8, .string (s.extract a (a + 1)), .int .i64 0, .int .i64 0], .int .i64 ((1 : Nat) : Int), .int .i64 0]) (by simp [results, Tryz.results44, go_sem]) rfl ?_
              rw [HP0.out]
              refine ⟨?_, (Kp.refl [] w).alloc _⟩
              rw [HT.out, ext_take, show a + 1 - a = 1 by omega]
              rfl
          · rw [if_pos hop] at hT
            unfold Lx.opT at hT
            simp only at hT
            have hsm := rSomeOp_c s a
            have hrn := Lx.run_le Lx.isop (s.data.toList.drop a)
            rw [List.length_drop, hl] at hrn
            obtain ⟨n, hn⟩ : ∃ n, n = Lx.run Lx.isop (s.data.toList.drop a) := ⟨_, rfl⟩
            rw [← hn] at hT hsm hrn
            clear hn
            have HSM := Lib.hid hsm; clear hsm
            have HLE := Lib.hid hle; clear hle hc hnx
            have HDG := Lib.hid hdg; clear hdg
            have HOP := Lib.hid hop; clear hop h39 h95
            by_cases h3 : n ≤ 3
            · have b3 : decide ((3 : Int) < n) = false := decide_eq_false (by omega)
              rw [if_pos (by omega)] at hT
              simp only [Int.toNat_natCast] at hT
              have HT := Lib.hid hT; clear hT
              have z1 : IntKind.i64.wrap ((a : Int) + n) = (a : Int) + n := Go.IntWalk.i64_in _ (by omega)
              have z2 : (a : Int) + n ≤ s.size := by omega
              go_wp2_with fail
              refine (rLetter_c c _).mono ?_
              rintro e w' ⟨rfl, rfl⟩
              rw [HLE.out]
              go_wp2_with fail
              refine (rDigit_c c _).mono ?_
              rintro e w' ⟨rfl, rfl⟩
              rw [HDG.out]
              go_wp2_with fail
              refine (rInOp_c c _).mono ?_
              rintro e w' ⟨rfl, rfl⟩
              rw [HOP.out]
              go_wp2_with fail
              refine (HSM.out _ hs (Nat.le_of_lt ha)).mono ?_
              rintro e w' ⟨rfl, rfl⟩
              go_wp2_with fail
              refine bodyPost_ret (v := .tuple #[.agg #[.int .i64 7, .string (s.extract a (a + n)), .int .i64 0, .int .i64 0], .int .i64 ((n : Nat) : Int), .int .i64 0]) (by simp [results, Tryz.results44, go_sem]) rfl ?_
              rw [HP0.out]
              refine ⟨?_, (Kp.refl [] w).alloc _⟩
              rw [HT.out, ext_take, show a + n - a = n by omega]
              rfl
            · have b3 : decide ((3 : Int) < n) = true := decide_eq_true (by omega)
              rw [if_neg (by omega)] at hT
              have HT := Lib.hid hT; clear hT
              go_wp2_with fail
              refine (rLetter_c c _).mono ?_
              rintro e w' ⟨rfl, rfl⟩
              rw [HLE.out]
              go_wp2_with fail
              refine (rDigit_c c _).mono ?_
              rintro e w' ⟨rfl, rfl⟩
              rw [HDG.out]
              go_wp2_with fail
              refine (rInOp_c c _).mono ?_
              rintro e w' ⟨rfl, rfl⟩
              rw [HOP.out]
              go_wp2_with fail
              refine (HSM.out _ hs (Nat.le_of_lt ha)).mono ?_
              rintro e w' ⟨rfl, rfl⟩
              go_wp2_with fail
              refine bodyPost_ret (v := .tuple #[.agg #[.int .i64 0, .string ⟨#[]⟩, .int .i64 0, .int .i64 0], .int .i64 (n : Int), .int .i64 12]) (by simp [results, Tryz.results44, go_sem]) rfl ?_
              rw [HP0.out]
              refine ⟨?_, (Kp.refl [] w).alloc _⟩
              rw [HT.out]
              exact ⟨⟨0, [], 0, 0⟩, (n : Int), rfl⟩
        · rw [if_pos hdg] at hT
          unfold Lx.numT at hT
          simp only at hT
          rw [hnx] at hT
          have hsm := rSomeDigit_c s a
          have hrn := Lx.run_le Lx.digit (s.data.toList.drop a)
          rw [List.length_drop, hl] at hrn
          have hr1 : 1 ≤ Lx.run Lx.digit (s.data.toList.drop a) := by
            rw [Lx.run_drop_yes (by rw [hl]; exact ha) (by rw [hc]; exact hdg)]; omega
          obtain ⟨n, hn⟩ : ∃ n, n = Lx.run Lx.digit (s.data.toList.drop a) := ⟨_, rfl⟩
          rw [← hn] at hT hsm hrn hr1
          clear hn
          have HSM := Lib.hid hsm; clear hsm
          have HLE := Lib.hid hle; clear hle hc hnx
          have HDG := Lib.hid hdg; clear hdg h39 h95
          by_cases h4 : n ≤ 400
          · have b4 : decide ((400 : Int) < n) = false := decide_eq_false (by omega)
            by_cases hb : n = 1 ∨ c ≠ 48
            · rw [if_pos ⟨by omega, by rcases hb with h | h; exact .inl (by omega); exact .inr h⟩] at hT
              simp only [Int.toNat_natCast] at hT
              have HT := Lib.hid hT; clear hT
              have z1 : IntKind.i64.wrap ((a : Int) + n) = (a : Int) + n := Go.IntWalk.i64_in _ (by omega)
              have z2 : (a : Int) + n ≤ s.size := by omega
              by_cases h1 : n = 1
              · have b5 : decide ((1 : Int) < n) = false := decide_eq_false (by omega)
                clear hb h1
                go_wp2_with fail
                refine (rLetter_c c _).mono ?_
                rintro e w' ⟨rfl, rfl⟩
                rw [HLE.out]
                go_wp2_with fail
                refine (rDigit_c c _).mono ?_
                rintro e w' ⟨rfl, rfl⟩
                rw [HDG.out]
                go_wp2_with fail
                refine (HSM.out _ hs (Nat.le_of_lt ha)).mono ?_
                rintro e w' ⟨rfl, rfl⟩
                go_wp2_with fail
                refine bodyPost_ret (v := .tuple #[.agg #[.int .i64 5, .string (s.extract a (a + n)), .int .i64 0, .int .i64 0], .int .i64 ((n : Nat) : Int), .int .i64 0]) (by simp [results, Tryz.results44, go_sem]) rfl ?_
                rw [HP0.out]
                refine ⟨?_, (Kp.refl [] w).alloc _⟩
                rw [HT.out, ext_take, show a + n - a = n by omega]
                rfl
              · have b5 : decide ((1 : Int) < n) = true := decide_eq_true (by omega)
                have q5 : (((c.toNat : Nat) : Int) == 48) = false := by
                  rcases hb with h | h
                  · exact absurd h h1
                  · have : c.toNat ≠ 48 := fun e => h ((byte_is e).trans rfl)
                    simpa using fun h => this (by omega)
                clear hb h1
                go_wp2_with fail
                refine (rLetter_c c _).mono ?_
                rintro e w' ⟨rfl, rfl⟩
                rw [HLE.out]
                go_wp2_with fail
                refine (rDigit_c c _).mono ?_
                rintro e w' ⟨rfl, rfl⟩
                rw [HDG.out]
                go_wp2_with fail
                refine (HSM.out _ hs (Nat.le_of_lt ha)).mono ?_
                rintro e w' ⟨rfl, rfl⟩
                go_wp2_with fail
                refine bodyPost_ret (v := .tuple #[.agg #[.int .i64 5, .string (s.extract a (a + n)), .int .i64 0, .int .i64 0], .int .i64 ((n : Nat) : Int), .int .i64 0]) (by simp [results, Tryz.results44, go_sem]) rfl ?_
                rw [HP0.out]
                refine ⟨?_, (Kp.refl [] w).alloc _⟩
                rw [HT.out, ext_take, show a + n - a = n by omega]
                rfl
            · rw [if_neg (fun h => hb (by rcases h.2 with h | h; exact .inl (by omega); exact .inr h))] at hT
              have HT := Lib.hid hT; clear hT
              have b5 : decide ((1 : Int) < n) = true := decide_eq_true (by have : n ≠ 1 := fun h => hb (.inl h); omega)
              have q5 : (((c.toNat : Nat) : Int) == 48) = true := by
                have : c = 48 := Decidable.byContradiction fun h => hb (.inr h)
                simp [this]
              clear hb
              go_wp2_with fail
              refine (rLetter_c c _).mono ?_
              rintro e w' ⟨rfl, rfl⟩
              rw [HLE.out]
              go_wp2_with fail
              refine (rDigit_c c _).mono ?_
              rintro e w' ⟨rfl, rfl⟩
              rw [HDG.out]
              go_wp2_with fail
              refine (HSM.out _ hs (Nat.le_of_lt ha)).mono ?_
              rintro e w' ⟨rfl, rfl⟩
              go_wp2_with fail
              refine bodyPost_ret (v := .tuple #[.agg #[.int .i64 0, .string ⟨#[]⟩, .int .i64 0, .int .i64 0], .int .i64 (n : Int), .int .i64 12]) (by simp [results, Tryz.results44, go_sem]) rfl ?_
              rw [HP0.out]
              refine ⟨?_, (Kp.refl [] w).alloc _⟩
              rw [HT.out]
              exact ⟨⟨0, [], 0, 0⟩, (n : Int), rfl⟩
          · have b4 : decide ((400 : Int) < n) = true := decide_eq_true (by omega)
            rw [if_neg (fun h => by omega)] at hT
            have HT := Lib.hid hT; clear hT
            go_wp2_with fail
            refine (rLetter_c c _).mono ?_
            rintro e w' ⟨rfl, rfl⟩
            rw [HLE.out]
            go_wp2_with fail
            refine (rDigit_c c _).mono ?_
            rintro e w' ⟨rfl, rfl⟩
            rw [HDG.out]
            go_wp2_with fail
            refine (HSM.out _ hs (Nat.le_of_lt ha)).mono ?_
            rintro e w' ⟨rfl, rfl⟩
            go_wp2_with fail
            refine bodyPost_ret (v := .tuple #[.agg #[.int .i64 0, .string ⟨#[]⟩, .int .i64 0, .int .i64 0], .int .i64 (n : Int), .int .i64 12]) (by simp [results, Tryz.results44, go_sem]) rfl ?_
            rw [HP0.out]
            refine ⟨?_, (Kp.refl [] w).alloc _⟩
            rw [HT.out]
            exact ⟨⟨0, [], 0, 0⟩, (n : Int), rfl⟩
  · rw [if_pos hle] at hT
    have hlc := hle
    have hcall := fun w => rWordlyL_c s a w hs ha hc hlc
    have HLE := Lib.hid hle; clear hle hc hnx hlc
    have hcall := hcall (w.alloc (.cells #[.int .i64 0, .string .empty, .int .i64 0, .int .i64 0] 34))
    obtain ⟨TR, hTR⟩ : ∃ TR, Lx.tok false (s.data.toList.drop a) = TR := ⟨_, rfl⟩
    rw [hT] at hTR
    rw [hTR] at hcall
    have HTR : Hid (Lx.tok false (s.data.toList.drop a) = TR) := Lib.hid (hT.trans hTR)
    have HCL := Lib.hid hcall; clear hcall hT hTR
    go_wp2_with fail
    refine (rLetter_c c _).mono ?_
    rintro e w' ⟨rfl, rfl⟩
    rw [HLE.out]
    go_wp2_with fail
    refine HCL.out.mono ?_
    rintro e w1 ⟨hrt, hk1⟩
    have hb := hk1.heap (heap_alloc_new w (.cells #[.int .i64 0, .string .empty, .int .i64 0, .int .i64 0] 34)) (by simp)
    have HK1 := Lib.hid (((Kp.refl [] w).alloc _).trans hk1); clear hk1
    obtain ⟨b0, hb0⟩ : ∃ b0, w.heap.size = b0 := ⟨_, rfl⟩
    rw [hb0] at hb ⊢
    have HB := Lib.hid hb
    have HB0 := Lib.hid hb0; clear hb0
    have d0 := cell_of_block hb 0
    have d1 := cell_of_block hb 1
    have d2 := cell_of_block hb 2
    have d3 := cell_of_block hb 3
    simp at d0 d1 d2 d3
    have f0 : ∀ o, w1.frozen? ⟨b0, o, none⟩ = false := free_of_block hb
    have l0 := lt_of_block hb
    clear hb
    have hex : ∃ (x : Tok) (n er : Int), e = .returned (.tuple #[.agg #[.int .i64 x.kind, .string ⟨x.text.toArray⟩, .int .i64 x.line, .int .i64 x.col], .int .i64 n, .int .i64 er]) := by
      cases TR with
      | good k tx m => exact ⟨⟨k, tx, 0, 0⟩, m, 0, hrt⟩
      | bad er => obtain ⟨x, n, h⟩ := hrt; exact ⟨x, n, er, h⟩
    obtain ⟨x, n, er, rfl⟩ := hex
    have HRT := Lib.hid hrt; clear hrt
    go_wp2_with fail
    obtain ⟨V, hV⟩ : ∃ V, V = ((((w1.setCell ⟨b0, 0, none⟩ (.int .i64 x.kind)).setCell ⟨b0, 1, none⟩ (.string ⟨x.text.toArray⟩)).setCell ⟨b0, 2, none⟩ (.int .i64 x.line)).setCell ⟨b0, 3, none⟩ (.int .i64 x.col)) := ⟨_, rfl⟩
    have hb := block_setCell (block_setCell (block_setCell (block_setCell HB.out 0 (.int .i64 x.kind)) 1 (.string ⟨x.text.toArray⟩)) 2 (.int .i64 x.line)) 3 (.int .i64 x.col)
    have hge : w.heap.size ≤ b0 := Nat.le_of_eq HB0.out
    have hkV := (((HK1.out.setCell (p := ⟨b0, 0, none⟩) (.inr hge) (.int .i64 x.kind)).setCell (p := ⟨b0, 1, none⟩) (.inr hge) (.string ⟨x.text.toArray⟩)).setCell (p := ⟨b0, 2, none⟩) (.inr hge) (.int .i64 x.line)).setCell (p := ⟨b0, 3, none⟩) (.inr hge) (.int .i64 x.col)
    rw [← hV] at hb hkV ⊢
    have v0 := cell_of_block hb 0
    have v1 := cell_of_block hb 1
    have v2 := cell_of_block hb 2
    have v3 := cell_of_block hb 3
    simp at v0 v1 v2 v3
    refine bodyPost_ret (v := .tuple #[.agg #[.int .i64 x.kind, .string ⟨x.text.toArray⟩, .int .i64 x.line, .int .i64 x.col], .int .i64 n, .int .i64 er]) (by simp [results, Tryz.results44, go_sem, v0, v1, v2, v3]) rfl ?_
    rw [HP0.out, HTR.out]
    exact ⟨HRT.out, hkV⟩

end Go.Proofs.YtogmealngeejmaaGreatDoor
