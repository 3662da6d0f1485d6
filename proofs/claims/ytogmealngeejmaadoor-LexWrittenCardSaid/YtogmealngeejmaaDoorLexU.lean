/- Bytes that are so; right. -/
import Derived.Test.YtogmealngeejmaaDoorLexR
namespace Go.Proofs.YtogmealngeejmaaDoor
open Go Go.RowKit

theorem idxOf_any {α : Type} (p : α → Bool) (l : List α) : decide (0 ≤ idxOf p l) = l.any p := by
  unfold idxOf
  cases h : l.findIdx? p with
  | none =>
    rw [List.findIdx?_eq_none_iff] at h
    simp
    intro x hx; simpa using h x hx
  | some k =>
    rw [List.findIdx?_eq_some_iff_getElem] at h
    obtain ⟨hk, hp, _⟩ := h
    simp
    exact ⟨l[k], by simp, hp⟩

set_option maxRecDepth 100000 in
set_option maxHeartbeats 1000000 in
theorem indexB_c (f : FuncId) (p : UInt8 → Bool) (v : Value) (l : Lx.Bs) (w : World) (hv : BSl w v l) (hl : l.length ≤ 1000000)
    (hent : ∀ args w, (callFunc f args).run Tryd.prog w = .ok (.enter f args) w)
    (hp : ∀ (b : UInt8) (w : World), Calls Tryd.prog f #[.int .u8 b.toNat] w fun e w' => e = .returned (.bool (p b)) ∧ w = w') :
    Calls Tryd.prog 65 #[v, .func (.func f) #[] #[]] w fun e w' => e = .returned (.int .i64 (idxOf p l)) ∧ w = w' := by
  obtain ⟨a, c, rfl, hc, hcell⟩ := hv
  obtain ⟨P0, hP0⟩ : ∃ P0 : Ending → World → Prop, P0 = fun e w' => e = .returned (.int .i64 (idxOf p l)) ∧ w = w' := ⟨_, rfl⟩
  rw [← hP0]
  have HP0 := Lib.hid hP0; clear hP0
  go_enter Tryd.func65, Tryd.ntmps65
  go_wp2_with fail
  go_loopg [8] l.length (fun n x wr => ∃ k : Nat, n = l.length - k ∧ x = .int .i64 k ∧ k ≤ l.length ∧ Hid (∀ j y, j < k → l[j]? = some y → p y = false) ∧ wr = w)
  case atStart => exact ⟨0, rfl, rfl, Nat.zero_le _, fun j y hj => by omega, rfl⟩
  case round =>
    obtain ⟨k, rfl, rfl, hk, hall, rfl⟩ := hrel
    by_cases hkn : k < l.length
    · obtain ⟨b, o, rfl, hb, hcj⟩ := hcell (by intro e; subst e; simp at hkn)
      have hck := hcj k hkn
      clear hcj hcell
      have hb' : decide ((k : Int) < l.length) = true := by simpa using hkn
      have hx : l[k]? = some (l.getD k 0) := by simp [List.getD, hkn]
      have hkl : l.getD k 0 = l[k] := by simp [List.getD, hkn]
      obtain ⟨x, hxx⟩ : ∃ x, x = l.getD k 0 := ⟨_, rfl⟩
      rw [← hxx] at hck hx
      clear hxx hkl
      have HX := Lib.hid hx; clear hx
      go_wp2_with fail
      refine (hp x wr).mono ?_
      rintro e w' ⟨rfl, rfl⟩
      cases hq : p x
      · have HQ := Lib.hid hq; clear hq
        go_wp2_with fail
        go_roundg (l.length - (k + 1))
        case measure => omega
        case rel =>
          refine ⟨k + 1, rfl, by simp, by omega, fun j y hj hy => ?_, rfl⟩
          by_cases hjk : j < k
          · exact hall.out j y hjk hy
          · obtain rfl : j = k := by omega
            rw [HX.out] at hy; cases hy; exact HQ.out
      · have HQ := Lib.hid hq; clear hq
        go_wp2_with fail
        rw [HP0.out]
        exact ⟨by rw [idxOf_some hall.out HX.out HQ.out]; rfl, rfl⟩
    · obtain rfl : k = l.length := by omega
      have hb' : decide ((l.length : Int) < l.length) = false := by simp
      go_wp2_with fail
      rw [HP0.out]
      exact ⟨by rw [idxOf_none hall.out]; rfl, rfl⟩

set_option maxRecDepth 100000 in
set_option maxHeartbeats 1000000 in
theorem containsB_c (f : FuncId) (p : UInt8 → Bool) (v : Value) (l : Lx.Bs) (w : World) (hv : BSl w v l) (hl : l.length ≤ 1000000)
    (hent : ∀ args w, (callFunc f args).run Tryd.prog w = .ok (.enter f args) w)
    (hp : ∀ (b : UInt8) (w : World), Calls Tryd.prog f #[.int .u8 b.toNat] w fun e w' => e = .returned (.bool (p b)) ∧ w = w') :
    Calls Tryd.prog 53 #[v, .func (.func f) #[] #[]] w fun e w' => e = .returned (.bool (l.any p)) ∧ w = w' := by
  rw [← idxOf_any]
  go_enter Tryd.func53, Tryd.ntmps53
  go_wp2_with fail
  refine (indexB_c f p v l w hv hl hent hp).mono ?_
  rintro e w' ⟨rfl, rfl⟩
  go_wp2_with fail
  go_ret
  exact ⟨rfl, rfl⟩

def Lx.inside (n : Int) : Bool := decide (1 ≤ n) && decide (n ≤ 20001)
def Lx.odd (b : UInt8) : Bool := decide ((b.toNat : Int) < 32) || decide ((126 : Int) < b.toNat)

set_option maxRecDepth 100000 in
set_option maxHeartbeats 400000 in
theorem inside_c (n : Int) (w : World) : Calls Tryd.prog 52 #[.int .i64 n] w fun e w' => e = .returned (.bool (Lx.inside n)) ∧ w = w' := by
  unfold Lx.inside
  go_enter Tryd.func52, Tryd.ntmps52
  cases h : decide (1 ≤ n)
  all_goals
    go_wp2
    go_ret
    simp

set_option maxRecDepth 100000 in
set_option maxHeartbeats 400000 in
theorem odd_c (b : UInt8) (w : World) : Calls Tryd.prog 54 #[.int .u8 b.toNat] w fun e w' => e = .returned (.bool (Lx.odd b)) ∧ w = w' := by
  have hb := byte_lt b
  unfold Lx.odd
  go_enter Tryd.func54, Tryd.ntmps54
  cases h : decide ((b.toNat : Int) < 32)
  all_goals
    go_wp2
    go_ret
    simp

/-- A drawn region whose operations and callees keep what lies: walked once. The worlds are the values of a function. -/
theorem wp_region_kept {P : Program} {id : Nat} {Q : Exit → Act → World → Prop} {a : Act} {w : World} {l : List Oper} (hm : P.follows .mixedOrders = true) (hB : Region.lexB .any l.toArray = true)
    (h : ∀ (M : Type) [Nonempty M] (f : M → World), (∀ m, Kp [] w (f m)) → (∀ w', Kp [] w w' → ∃ m, w' = f m) →
      wpQuiet P l.toArray (fun w' => ∃ m, w' = f m) (fun a' => ∀ w', (∃ m, w' = f m) → Q .normal a' w') l a) : (Code.region id l.toArray true).wp P Q a w := by
  haveI : Nonempty {w' : World // Kp [] w w'} := ⟨⟨w, Kp.refl _ _⟩⟩
  have h1 := h {w' : World // Kp [] w w'} Subtype.val (fun m => m.2) (fun w' hk => ⟨⟨w', hk⟩, rfl⟩)
  exact wp_region_quiet (C := fun w' => ∃ m : {w' : World // Kp [] w w'}, w' = m.val) hm hB ⟨⟨_, (Kp.refl [] w).drew⟩, rfl⟩ (by simpa using h1)

def Lx.right (t : Tok) : Bool :=
  if (t.line ≠ 0 ∨ t.col ≠ 0) ∧ ¬ (Lx.inside t.line = true ∧ Lx.inside t.col = true) then false
  else if t.kind = 9 then t.text == [46]
  else if t.kind = 6 then !(t.text.any Lx.odd)
  else t.kind != 0 && Lx.kind t.text == t.kind

def encTk (x : Tok) : Value := .agg #[.int .i64 x.kind, .string ⟨x.text.toArray⟩, .int .i64 x.line, .int .i64 x.col]




/-- The bytes of a string that was just converted. -/
theorem bytes_own (l : Lx.Bs) (w : World) (e : TypeId) : BSl (Lib.bytesWorld w e ⟨l.toArray⟩) (.slice (some ⟨w.heap.size, 0, none⟩) l.length (grownCap w l.length 0 e)) l := by
  refine ⟨some ⟨w.heap.size, 0, none⟩, _, rfl, grownCap_ge w l.length 0 e, fun _ => ⟨w.heap.size, 0, rfl, ?_, fun j hj => ?_⟩⟩
  · rw [Lib.bytesWorld_size]; exact Nat.lt_succ_self _
  · have hz : (⟨l.toArray⟩ : ByteArray).size = l.length := by simp [ByteArray.size]
    rw [Nat.zero_add]
    have := Lib.bytesWorld_cell w e ⟨l.toArray⟩ j (by rw [hz]; exact hj)
    simpa using this

set_option maxRecDepth 100000 in
set_option maxHeartbeats 600000 in
theorem right_c (x : Tok) (w : World) (hsz : x.text.length ≤ 1000000) : Calls Tryd.prog 39 #[encTk x] w fun e w' => Kp [] w w' ∧ e = .returned (.bool (Lx.right x)) := by
  obtain ⟨P0, hP0⟩ : ∃ P0 : Ending → World → Prop, P0 = fun e w' => Kp [] w w' ∧ e = .returned (.bool (Lx.right x)) := ⟨_, rfl⟩
  rw [← hP0]
  have hr : Lx.right x = (if (x.line ≠ 0 ∨ x.col ≠ 0) ∧ ¬ (Lx.inside x.line = true ∧ Lx.inside x.col = true) then false
    else if x.kind = 9 then x.text == [46]
    else if x.kind = 6 then !(x.text.any Lx.odd)
    else x.kind != 0 && Lx.kind x.text == x.kind) := rfl
  obtain ⟨R, hR⟩ : ∃ R, R = Lx.right x := ⟨_, rfl⟩
  rw [← hR] at hr hP0
  clear hR
  have HP0 := Lib.hid hP0; clear hP0
  unfold encTk
  have hcv : ∀ (w : World) (s : ByteArray), (convert 9 67 (.string s)).run Tryd.prog w = .ok (.slice (some ⟨w.heap.size, 0, none⟩) s.size (grownCap w s.size 0 5)) (Lib.bytesWorld w 5 s) := fun w s =>
    Lib.run_convert_string_bytes w _ _ _ s Tryd.underlying9 Tryd.underlying67 Tryd.underlying5
  go_enter Tryd.func39, Tryd.ntmps39
  by_cases hl : x.line = 0
  · have l1 : (x.line != 0) = false := by simp [hl]
    have l2 : (x.line == 0) = true := by simp [hl]
    by_cases hc : x.col = 0
    · have l3 : (x.col != 0) = false := by simp [hc]
      have l4 : (x.col == 0) = true := by simp [hc]
      rw [if_neg (by simp [hl, hc])] at hr
      have HR := Lib.hid hr; clear hr
      clear hl hc
      by_cases k9 : x.kind = 9
      · have k9a : (x.kind == 9) = true := by simp [k9]
        have K9 := Lib.hid k9; clear k9
        go_wp2_with (go_at_call 52; refine (inside_c _ _).mono ?_; rintro e w' ⟨rfl, rfl⟩)
        rw [HP0.out]
        refine ⟨(Kp.refl [] w).alloc _, ?_⟩
        rw [HR.out, if_pos K9.out]; rfl
      · have k9a : (x.kind == 9) = false := by simpa using k9
        have K9 := Lib.hid k9; clear k9
        by_cases k6 : x.kind = 6
        · have k6a : (x.kind == 6) = true := by simp [k6]
          have K6 := Lib.hid k6; clear k6
          go_wp2_with (go_at_call 52; refine (inside_c _ _).mono ?_; rintro e w' ⟨rfl, rfl⟩)
          obtain ⟨w1, hw1⟩ : ∃ w1, w1 = w.alloc (.cells #[.int .i64 x.kind, .string ⟨x.text.toArray⟩, .int .i64 x.line, .int .i64 x.col] 33) := ⟨_, rfl⟩
          have hs1 : w1.heap.size = w.heap.size + 1 := by rw [hw1]; simp
          have hkw : Kp [] w w1 := by rw [hw1]; exact (Kp.refl [] w).alloc _
          rw [← hw1]
          have hB := containsB_c 54 Lx.odd _ x.text _ (bytes_own x.text w1 5) hsz (Proofs.enters_of Tryd.func54 (by kernel_rfl) rfl) odd_c
          rw [hs1] at hB
          refine hB.mono ?_
          rintro e w2 ⟨rfl, rfl⟩
          go_wp2_with fail
          rw [HP0.out]
          refine ⟨((Kp.refl [] w).alloc _).bytesWorld _ _, ?_⟩
          rw [HR.out, if_neg K9.out, if_pos K6.out]; rfl
        · have k6a : (x.kind == 6) = false := by simpa using k6
          have K6 := Lib.hid k6; clear k6
          obtain ⟨w1, hw1⟩ : ∃ w1, w1 = w.alloc (.cells #[.int .i64 x.kind, .string ⟨x.text.toArray⟩, .int .i64 x.line, .int .i64 x.col] 33) := ⟨_, rfl⟩
          have hbl : w1.heap[w.heap.size]? = some (.cells #[.int .i64 x.kind, .string ⟨x.text.toArray⟩, .int .i64 x.line, .int .i64 x.col] 33 (0, 0)) := by rw [hw1]; exact heap_alloc_new w _
          have hkw : Kp [] w w1 := by rw [hw1]; exact (Kp.refl [] w).alloc _
          go_wp2_with (go_at_call 52; refine (inside_c _ _).mono ?_; rintro e w' ⟨rfl, rfl⟩)
          rw [← hw1]
          refine wp_region_kept (by kernel_rfl) (by kernel_rfl) ?_
          intro M hM f hf hfr
          have c0 : ∀ m, (f m).cell? ⟨w.heap.size, 0, none⟩ = some (.int .i64 x.kind) := fun m => cell_of_block ((hf m).heap hbl (by simp)) 0
          have c1 : ∀ m, (f m).cell? ⟨w.heap.size, 1, none⟩ = some (.string ⟨x.text.toArray⟩) := fun m => cell_of_block ((hf m).heap hbl (by simp)) 1
          have HF := Lib.hid hf; clear hf
          have HFR := Lib.hid hfr; clear hfr
          have HBL := Lib.hid hbl; clear hbl
          have HKW := Lib.hid hkw; clear hkw
          have HW1 := Lib.hid hw1; clear hw1
          by_cases k0 : x.kind = 0
          · have k0a : (x.kind != 0) = false := by simp [k0]
            have k0b : (x.kind == 0) = true := by simp [k0]
            clear k0
            iterate 12 (go_big_quiet_step (fail))
            refine wpQuiet_nil ?_
            rintro _ ⟨m, rfl⟩
            have HM := Lib.hid (HKW.out.trans (HF.out m))
            go_wp2_with fail
            rw [HP0.out]
            refine ⟨HM.out, ?_⟩
            rw [HR.out, if_neg K9.out, if_neg K6.out, k0a]; rfl
          · have k0a : (x.kind != 0) = true := by simpa using k0
            have k0b : (x.kind == 0) = false := by simpa using k0
            clear k0
            iterate 12 (go_big_quiet_step ((refine (kind_c ⟨x.text.toArray⟩ _ (by simpa [ByteArray.size] using hsz)).mono ?_; rintro e w2 ⟨hk2, rfl⟩; exact ⟨rfl, HFR.out _ ((HF.out _).trans hk2)⟩)))
            refine wpQuiet_nil ?_
            rintro _ ⟨m, rfl⟩
            have HM := Lib.hid (HKW.out.trans (HF.out m))
            go_wp2_with fail
            rw [HP0.out]
            refine ⟨HM.out, ?_⟩
            rw [HR.out, if_neg K9.out, if_neg K6.out, k0a]; rfl
    · have l3 : (x.col != 0) = true := by simpa using hc
      have l4 : (x.col == 0) = false := by simpa using hc
      have hin : Lx.inside x.line = false := by rw [hl]; rfl
      rw [if_pos ⟨.inr hc, by rw [hin]; simp⟩] at hr
      have HR := Lib.hid hr; clear hr
      clear hl hc
      go_wp2_with (go_at_call 52; refine (inside_c _ _).mono ?_; rintro e w' ⟨rfl, rfl⟩)
      rw [HP0.out]
      refine ⟨(Kp.refl [] w).alloc _, ?_⟩
      rw [HR.out]
      rfl
  · have l1 : (x.line != 0) = true := by simpa using hl
    have l2 : (x.line == 0) = false := by simpa using hl
    cases hin : Lx.inside x.line
    · rw [if_pos ⟨.inl hl, by rw [hin]; simp⟩] at hr
      have HR := Lib.hid hr; clear hr
      clear hl
      go_wp2_with (go_at_call 52; refine (inside_c _ _).mono ?_; rintro e w' ⟨rfl, rfl⟩)
      rw [HP0.out]
      refine ⟨(Kp.refl [] w).alloc _, ?_⟩
      rw [HR.out]
      rfl
    · cases hin2 : Lx.inside x.col
      · rw [if_pos ⟨.inl hl, by rw [hin2]; simp⟩] at hr
        have HR := Lib.hid hr; clear hr
        clear hl
        go_wp2_with (go_at_call 52; refine (inside_c _ _).mono ?_; rintro e w' ⟨rfl, rfl⟩)
        rw [HP0.out]
        refine ⟨(Kp.refl [] w).alloc _, ?_⟩
        rw [HR.out]
        rfl
      · rw [if_neg (by rw [hin, hin2]; simp)] at hr
        have HR := Lib.hid hr; clear hr
        clear hl
        by_cases k9 : x.kind = 9
        · have k9a : (x.kind == 9) = true := by simp [k9]
          have K9 := Lib.hid k9; clear k9
          go_wp2_with (go_at_call 52; refine (inside_c _ _).mono ?_; rintro e w' ⟨rfl, rfl⟩)
          rw [HP0.out]
          refine ⟨(Kp.refl [] w).alloc _, ?_⟩
          rw [HR.out, if_pos K9.out]; rfl
        · have k9a : (x.kind == 9) = false := by simpa using k9
          have K9 := Lib.hid k9; clear k9
          by_cases k6 : x.kind = 6
          · have k6a : (x.kind == 6) = true := by simp [k6]
            have K6 := Lib.hid k6; clear k6
            go_wp2_with (go_at_call 52; refine (inside_c _ _).mono ?_; rintro e w' ⟨rfl, rfl⟩)
            obtain ⟨w1, hw1⟩ : ∃ w1, w1 = w.alloc (.cells #[.int .i64 x.kind, .string ⟨x.text.toArray⟩, .int .i64 x.line, .int .i64 x.col] 33) := ⟨_, rfl⟩
            have hs1 : w1.heap.size = w.heap.size + 1 := by rw [hw1]; simp
            have hkw : Kp [] w w1 := by rw [hw1]; exact (Kp.refl [] w).alloc _
            rw [← hw1]
            have hB := containsB_c 54 Lx.odd _ x.text _ (bytes_own x.text w1 5) hsz (Proofs.enters_of Tryd.func54 (by kernel_rfl) rfl) odd_c
            rw [hs1] at hB
            refine hB.mono ?_
            rintro e w2 ⟨rfl, rfl⟩
            go_wp2_with fail
            rw [HP0.out]
            refine ⟨((Kp.refl [] w).alloc _).bytesWorld _ _, ?_⟩
            rw [HR.out, if_neg K9.out, if_pos K6.out]; rfl
          · have k6a : (x.kind == 6) = false := by simpa using k6
            have K6 := Lib.hid k6; clear k6
            obtain ⟨w1, hw1⟩ : ∃ w1, w1 = w.alloc (.cells #[.int .i64 x.kind, .string ⟨x.text.toArray⟩, .int .i64 x.line, .int .i64 x.col] 33) := ⟨_, rfl⟩
            have hbl : w1.heap[w.heap.size]? = some (.cells #[.int .i64 x.kind, .string ⟨x.text.toArray⟩, .int .i64 x.line, .int .i64 x.col] 33 (0, 0)) := by rw [hw1]; exact heap_alloc_new w _
            have hkw : Kp [] w w1 := by rw [hw1]; exact (Kp.refl [] w).alloc _
            go_wp2_with (go_at_call 52; refine (inside_c _ _).mono ?_; rintro e w' ⟨rfl, rfl⟩)
            rw [← hw1]
            refine wp_region_kept (by kernel_rfl) (by kernel_rfl) ?_
            intro M hM f hf hfr
            have c0 : ∀ m, (f m).cell? ⟨w.heap.size, 0, none⟩ = some (.int .i64 x.kind) := fun m => cell_of_block ((hf m).heap hbl (by simp)) 0
            have c1 : ∀ m, (f m).cell? ⟨w.heap.size, 1, none⟩ = some (.string ⟨x.text.toArray⟩) := fun m => cell_of_block ((hf m).heap hbl (by simp)) 1
            have HF := Lib.hid hf; clear hf
            have HFR := Lib.hid hfr; clear hfr
            have HBL := Lib.hid hbl; clear hbl
            have HKW := Lib.hid hkw; clear hkw
            have HW1 := Lib.hid hw1; clear hw1
            by_cases k0 : x.kind = 0
            · have k0a : (x.kind != 0) = false := by simp [k0]
              have k0b : (x.kind == 0) = true := by simp [k0]
              clear k0
              iterate 12 (go_big_quiet_step (fail))
              refine wpQuiet_nil ?_
              rintro _ ⟨m, rfl⟩
              have HM := Lib.hid (HKW.out.trans (HF.out m))
              go_wp2_with fail
              rw [HP0.out]
              refine ⟨HM.out, ?_⟩
              rw [HR.out, if_neg K9.out, if_neg K6.out, k0a]; rfl
            · have k0a : (x.kind != 0) = true := by simpa using k0
              have k0b : (x.kind == 0) = false := by simpa using k0
              clear k0
              iterate 12 (go_big_quiet_step ((refine (kind_c ⟨x.text.toArray⟩ _ (by simpa [ByteArray.size] using hsz)).mono ?_; rintro e w2 ⟨hk2, rfl⟩; exact ⟨rfl, HFR.out _ ((HF.out _).trans hk2)⟩)))
              refine wpQuiet_nil ?_
              rintro _ ⟨m, rfl⟩
              have HM := Lib.hid (HKW.out.trans (HF.out m))
              go_wp2_with fail
              rw [HP0.out]
              refine ⟨HM.out, ?_⟩
              rw [HR.out, if_neg K9.out, if_neg K6.out, k0a]; rfl

end Go.Proofs.YtogmealngeejmaaDoor
