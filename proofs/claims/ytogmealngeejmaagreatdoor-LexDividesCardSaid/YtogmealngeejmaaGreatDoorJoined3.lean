import Derived.Test.YtogmealngeejmaaGreatDoorProg
import Derived.Test.YtogmealngeejmaaGreatDoorJoined0
import Derived.Test.YtogmealngeejmaaGreatDoorJoined1
import Derived.Test.YtogmealngeejmaaGreatDoorJoined2
import Derived.Test.YtogmealngeejmaaGreatDoorShelf
import Derived.Deep.QuietTactic
import Derived.BigQuiet
/- The lexer's small functions: letters, digits, operators; need; the reader's next, colon, rest, forward. -/
namespace Go.Proofs.YtogmealngeejmaaGreatDoor
open Go Go.RowKit

theorem byte_eq {b : UInt8} (h : (b.toNat : Int) = 10) : b = 10 := UInt8.toNat_inj.1 (by simpa using (by omega : b.toNat = 10))
theorem byte_is {b : UInt8} {n : Nat} (h : b.toNat = n) : b = UInt8.ofNat n := by rw [← h]; simp
theorem byte_lt (b : UInt8) : (b.toNat : Int) < 256 := by have := b.toNat_lt; omega

set_option maxRecDepth 100000 in
set_option maxHeartbeats 400000 in
theorem isSmall_c (b : UInt8) (w : World) : Calls Tryz.prog 59 #[.int .u8 b.toNat] w fun e w' => e = .returned (.bool (Lx.small b)) ∧ w = w' := by
  have hb := byte_lt b
  unfold Lx.small
  go_enter Tryz.func59, Tryz.ntmps59
  go_wp2
  all_goals go_ret
  all_goals simp [*]
  omega

set_option maxRecDepth 100000 in
set_option maxHeartbeats 400000 in
theorem isLarge_c (b : UInt8) (w : World) : Calls Tryz.prog 60 #[.int .u8 b.toNat] w fun e w' => e = .returned (.bool (Lx.large b)) ∧ w = w' := by
  have hb := byte_lt b
  unfold Lx.large
  go_enter Tryz.func60, Tryz.ntmps60
  go_wp2
  all_goals go_ret
  all_goals simp [*]
  omega

set_option maxRecDepth 100000 in
set_option maxHeartbeats 400000 in
theorem isDigit_c (b : UInt8) (w : World) : Calls Tryz.prog 97 #[.int .u8 b.toNat] w fun e w' => e = .returned (.bool (Lx.digit b)) ∧ w = w' := by
  have hb := byte_lt b
  unfold Lx.digit
  go_enter Tryz.func97, Tryz.ntmps97
  go_wp2
  all_goals go_ret
  all_goals simp [*]
  omega

set_option maxRecDepth 100000 in
set_option maxHeartbeats 400000 in
theorem isLetter_c (b : UInt8) (w : World) : Calls Tryz.prog 30 #[.int .u8 b.toNat] w fun e w' => e = .returned (.bool (Lx.letter b)) ∧ w = w' := by
  have hb := byte_lt b
  unfold Lx.letter
  cases hs : Lx.small b
  all_goals
    have HS := Lib.hid hs; clear hs
    go_enter Tryz.func30, Tryz.ntmps30
    go_wp2_with (first | (go_at_call 59; refine (isSmall_c b _).mono ?_; rintro e w' ⟨rfl, rfl⟩; rw [HS.out]) | (go_at_call 60; refine (isLarge_c b _).mono ?_; rintro e w' ⟨rfl, rfl⟩))
    go_ret
    exact ⟨by simp, rfl⟩

set_option maxRecDepth 100000 in
set_option maxHeartbeats 400000 in
theorem isWord_c (b : UInt8) (w : World) : Calls Tryz.prog 112 #[.int .u8 b.toNat] w fun e w' => e = .returned (.bool (Lx.wordy b)) ∧ w = w' := by
  have hb := byte_lt b
  unfold Lx.wordy
  cases hs : Lx.letter b
  all_goals
    have HS := Lib.hid hs; clear hs
    go_enter Tryz.func112, Tryz.ntmps112
    go_wp2_with (first | (go_at_call 30; refine (isLetter_c b _).mono ?_; rintro e w' ⟨rfl, rfl⟩; rw [HS.out]) | (go_at_call 97; refine (isDigit_c b _).mono ?_; rintro e w' ⟨rfl, rfl⟩))
    go_ret
    exact ⟨by simp, rfl⟩

set_option maxRecDepth 100000 in
set_option maxHeartbeats 400000 in
theorem isBlank_c (b : UInt8) (w : World) : Calls Tryz.prog 106 #[.int .u8 b.toNat] w fun e w' => e = .returned (.bool (Lx.blank b)) ∧ w = w' := by
  have hb := byte_lt b
  unfold Lx.blank
  go_enter Tryz.func106, Tryz.ntmps106
  go_wp2
  all_goals go_ret
  all_goals simp [*]

set_option maxRecDepth 100000 in
set_option maxHeartbeats 400000 in
theorem strb_c (b : UInt8) (w : World) : Calls Tryz.prog 114 #[.int .u8 b.toNat] w fun e w' => e = .returned (.bool (Lx.strb b)) ∧ w = w' := by
  have hb := byte_lt b
  unfold Lx.strb
  go_enter Tryz.func114, Tryz.ntmps114
  go_wp2
  all_goals go_ret
  all_goals simp [*]
  all_goals (try omega)

theorem byte_back (b : UInt8) : ((b.toNat : Int)).toNat.toUInt8 = b := by simp

set_option maxRecDepth 100000 in
set_option maxHeartbeats 400000 in
theorem isOp_c (b : UInt8) (w : World) : Calls Tryz.prog 31 #[.int .u8 b.toNat] w fun e w' => e = .returned (.bool (Lx.isop b)) ∧ w = w' := by
  have hb := byte_lt b
  go_enter Tryz.func31, Tryz.ntmps31
  go_wp2_with (go_at_call 61; refine (Tryz.strings_IndexByte _ _ _).mono ?_; rintro e w' ⟨rfl, hw⟩; subst hw)
  go_ret
  exact ⟨by unfold Lx.isop Lx.ops; rw [Lib.contains_iff_indexByte]; simp, rfl⟩

set_option maxRecDepth 100000 in
set_option maxHeartbeats 400000 in
theorem isSign_c (b : UInt8) (w : World) : Calls Tryz.prog 102 #[.int .u8 b.toNat] w fun e w' => e = .returned (.bool (Lx.issign b)) ∧ w = w' := by
  have hb := byte_lt b
  go_enter Tryz.func102, Tryz.ntmps102
  go_wp2_with (go_at_call 61; refine (Tryz.strings_IndexByte _ _ _).mono ?_; rintro e w' ⟨rfl, hw⟩; subst hw)
  go_ret
  exact ⟨by unfold Lx.issign Lx.signs; rw [Lib.contains_iff_indexByte]; simp, rfl⟩

set_option maxRecDepth 100000 in
set_option maxHeartbeats 400000 in
theorem need_no (e at_ : Int) (w : World) : Calls Tryz.prog 82 #[.bool false, .int .i64 e, .int .i64 at_] w fun en w' =>
    en = .panicked [{ v := .iface 100 (.agg #[.int .i64 e, .int .i64 at_]), recovered := false }] ∧ w = w' := by
  go_enter Tryz.func82, Tryz.ntmps82
  go_wp2
  exact ⟨rfl, rfl, rfl⟩

set_option maxRecDepth 100000 in
set_option maxHeartbeats 400000 in
theorem need_yes (e at_ : Int) (w : World) : Calls Tryz.prog 82 #[.bool true, .int .i64 e, .int .i64 at_] w fun en w' => en = .returned (.tuple #[]) ∧ w = w' := by
  go_enter Tryz.func82, Tryz.ntmps82
  go_wp2
  go_end0
  exact ⟨rfl, rfl⟩

/-- The reader at r: what its block holds. -/
def Rdr (w : World) (r : Nat) (t : ByteArray) (a line col name : Int) : Prop :=
  w.heap[r]? = some (.cells #[.int .i64 a, .int .i64 line, .int .i64 col, .string t, .int .i64 name] 89 (0, 0))

theorem Rdr.facts {w : World} {r : Nat} {t : ByteArray} {a line col name : Int} (h : Rdr w r t a line col name) :
    w.cell? ⟨r, 0, none⟩ = some (.int .i64 a) ∧ w.cell? ⟨r, 1, none⟩ = some (.int .i64 line) ∧ w.cell? ⟨r, 2, none⟩ = some (.int .i64 col) ∧
    w.cell? ⟨r, 3, none⟩ = some (.string t) ∧ w.cell? ⟨r, 4, none⟩ = some (.int .i64 name) ∧ (∀ o, w.frozen? ⟨r, o, none⟩ = false) ∧ r < w.heap.size :=
  ⟨cell_of_block h 0, cell_of_block h 1, cell_of_block h 2, cell_of_block h 3, cell_of_block h 4, free_of_block h, lt_of_block h⟩

theorem Rdr.keep {S : List Nat} {w w' : World} {r : Nat} {t : ByteArray} {a line col name : Int} (h : Rdr w r t a line col name) (k : Kp S w w') (hr : r ∉ S) : Rdr w' r t a line col name := k.heap h hr
theorem Rdr.at' {w : World} {r : Nat} {t : ByteArray} {a line col name : Int} (h : Rdr w r t a line col name) (x : Int) : Rdr (w.setCell ⟨r, 0, none⟩ (.int .i64 x)) r t x line col name := block_setCell h 0 _
theorem Rdr.line' {w : World} {r : Nat} {t : ByteArray} {a line col name : Int} (h : Rdr w r t a line col name) (x : Int) : Rdr (w.setCell ⟨r, 1, none⟩ (.int .i64 x)) r t a x col name := block_setCell h 1 _
theorem Rdr.col' {w : World} {r : Nat} {t : ByteArray} {a line col name : Int} (h : Rdr w r t a line col name) (x : Int) : Rdr (w.setCell ⟨r, 2, none⟩ (.int .i64 x)) r t a line x name := block_setCell h 2 _
theorem Rdr.name' {w : World} {r : Nat} {t : ByteArray} {a line col name : Int} (h : Rdr w r t a line col name) (x : Int) : Rdr (w.setCell ⟨r, 4, none⟩ (.int .i64 x)) r t a line col x := block_setCell h 4 _

theorem Rdr.drew {w : World} {r : Nat} {t : ByteArray} {a line col name : Int} (h : Rdr w r t a line col name) (n : Nat) : Rdr (w.drewN n) r t a line col name := h

theorem nx_get (t : ByteArray) (a : Nat) (n : Int) (h0 : 0 ≤ n) : Lx.nx (t.data.toList.drop a) n = t.data.toList.getD (a + n).toNat 0 := by
  unfold Lx.nx
  rw [show ((a : Int) + n).toNat = a + n.toNat by omega]
  simp [List.getD, List.getElem?_drop]

set_option maxRecDepth 100000 in
set_option maxHeartbeats 400000 in
theorem next_c (r : Nat) (t : ByteArray) (a : Nat) (line col name n : Int) (w : World) (hR : Rdr w r t a line col name) (h0 : 0 ≤ n) (h1 : n ≤ 1100000) (ha : a ≤ t.size) (ht : t.size ≤ 1100000) :
    Calls Tryz.prog 87 #[.pointer (some ⟨r, 0, none⟩), .int .i64 n] w fun e w' => e = .returned (.int .u8 (Lx.nx (t.data.toList.drop a) n).toNat) ∧ ∃ m, w' = w.drewN m := by
  obtain ⟨f0, f1, f2, f3, f4, fz, hlt⟩ := hR.facts
  rw [nx_get t a n h0]
  obtain ⟨c, hc⟩ : ∃ c, c = t.data.toList.getD (a + n).toNat 0 := ⟨_, rfl⟩
  rw [← hc]
  have HC := Lib.hid hc; clear hc
  go_enter Tryz.func87, Tryz.ntmps87
  go_wp2
  go_quiet (fail)
  by_cases hlt : a + n < t.size
  · have h2 : 0 ≤ (a : Int) + n := by omega
    go_wp2
    go_quiet (fail)
    go_wp2
    go_ret
    exact ⟨ret_int (by rw [HC.out, getD_byte t _ (by omega)]), _, World.drewN_drewN _ _ _⟩
  · go_wp2
    go_ret
    exact ⟨ret_int (by rw [HC.out, getD_past t _ (by omega)]; rfl), _, rfl⟩

set_option maxRecDepth 100000 in
set_option maxHeartbeats 400000 in
theorem colon_c (r : Nat) (t : ByteArray) (a : Nat) (line col name n : Int) (w : World) (hR : Rdr w r t a line col name) (h0 : 0 ≤ n) (h1 : n ≤ 1100000) (ha : a ≤ t.size) (ht : t.size ≤ 1100000) :
    Calls Tryz.prog 113 #[.pointer (some ⟨r, 0, none⟩), .int .i64 n] w fun e w' => e = .returned (.int .i64 (Lx.colon (t.data.toList.drop a) n)) ∧ ∃ m, w' = w.drewN m := by
  unfold Lx.colon
  obtain ⟨c, hc⟩ : ∃ c, c = Lx.nx (t.data.toList.drop a) n := ⟨_, rfl⟩
  rw [← hc]
  have HC := Lib.hid hc; clear hc
  go_enter Tryz.func113, Tryz.ntmps113
  go_wp2_with (go_at_call 87; refine (next_c r t a line col name n _ hR h0 h1 ha ht).mono ?_; rintro e w' ⟨rfl, m, rfl⟩; rw [← HC.out])
  all_goals go_ret
  all_goals exact ⟨by simp [*], _, rfl⟩

end Go.Proofs.YtogmealngeejmaaGreatDoor

/- The lexer: the bytes still to be read, runs, forward. -/
namespace Go.Proofs.YtogmealngeejmaaGreatDoor
open Go Go.RowKit Lx

/-- A slice that reads as these bytes. -/
def BSl (w : World) (v : Value) (l : Lx.Bs) : Prop :=
  ∃ a c, v = .slice a l.length c ∧ l.length ≤ c ∧ (l ≠ [] → ∃ b o, a = some ⟨b, o, none⟩ ∧ b < w.heap.size ∧ ∀ j, j < l.length → w.cell? ⟨b, o + j, none⟩ = some (.int .u8 (l.getD j 0).toNat))

set_option maxRecDepth 100000 in
set_option maxHeartbeats 400000 in
theorem rest_c (r : Nat) (t : ByteArray) (a : Nat) (line col name : Int) (w : World) (hR : Rdr w r t a line col name) (ha : a ≤ t.size) (_ht : t.size ≤ 1100000) :
    Calls Tryz.prog 105 #[.pointer (some ⟨r, 0, none⟩)] w fun e w' => (∃ v, e = .returned v ∧ BSl w' v (t.data.toList.drop a)) ∧ Kp [] w w' := by
  obtain ⟨f0, f1, f2, f3, f4, fz, hlt⟩ := hR.facts
  have hcv : ∀ (w : World) (s : ByteArray), (convert 9 50 (.string s)).run Tryz.prog w = .ok (.slice (some ⟨w.heap.size, 0, none⟩) s.size (grownCap w s.size 0 5)) (Lib.bytesWorld w 5 s) := fun w s =>
    Lib.run_convert_string_bytes w _ _ _ s Tryz.underlying9 Tryz.underlying50 Tryz.underlying5
  go_enter Tryz.func105, Tryz.ntmps105
  go_wp2
  refine wp_draw_tail 10 (by kernel_rfl) (by kernel_rfl) ?_
  simp only [List.take_succ_cons, List.take_zero, List.drop_succ_cons, List.drop_zero]
  repeat (quiet_step (fail))
  refine wpQuiet_nil ?_
  intro _ hw'
  obtain ⟨nq, hw''⟩ := hw'
  subst hw''
  go_wp2
  go_ret
  have hs : (t.extract a t.size).data.toList = t.data.toList.drop a := by
    rw [ext_list]; exact List.take_of_length_le (by rw [List.length_drop, size_list]; omega)
  have hz : (t.extract a t.size).size = (t.data.toList.drop a).length := by rw [← hs, size_list]
  have hg := grownCap_ge (w.drewN nq) (t.data.toList.drop a).length 0 5
  refine ⟨⟨_, rfl, some ⟨w.heap.size, 0, none⟩, grownCap (w.drewN nq) (t.data.toList.drop a).length 0 5, ?_, hg, fun _ => ⟨w.heap.size, 0, rfl, ?_, fun j hj => ?_⟩⟩, ((Kp.refl [] w).drewN nq).bytesWorld _ _⟩
  · rw [← hz]; simp
  · rw [Lib.bytesWorld_size]; exact Nat.lt_succ_self _
  · rw [← hs, Nat.zero_add]; exact Lib.bytesWorld_cell (w.drewN nq) _ _ j (by rw [hz]; exact hj)

set_option maxRecDepth 100000 in
set_option maxHeartbeats 400000 in
theorem runB_c (f : FuncId) (p : UInt8 → Bool) (v : Value) (l : Lx.Bs) (w : World) (hv : BSl w v l) (hl : l.length ≤ 1100000)
    (hent : ∀ args w, (callFunc f args).run Tryz.prog w = .ok (.enter f args) w)
    (hp : ∀ (b : UInt8) (w : World), Calls Tryz.prog f #[.int .u8 b.toNat] w fun e w' => e = .returned (.bool (p b)) ∧ w = w') :
    Calls Tryz.prog 104 #[v, .func (.func f) #[] #[]] w fun e w' => e = .returned (.int .i64 (Lx.run p l)) ∧ w = w' := by
  obtain ⟨a, c, rfl, hc, hcell⟩ := hv
  obtain ⟨R, hR⟩ : ∃ R, R = Lx.run p l := ⟨_, rfl⟩
  rw [← hR]
  have HR := Lib.hid hR; clear hR
  go_enter Tryz.func104, Tryz.ntmps104
  go_wp2
  go_loop [5] (fun i => ∃ k : Nat, k ≤ l.length ∧ i = .int .i64 k ∧ Hid (∀ j, j < k → p (l.getD j 0) = true)) (fun i => l.length - (intOf i).toNat)
  case atStart => exact ⟨0, Nat.zero_le _, rfl, fun j hj => by omega⟩
  case round =>
    obtain ⟨k, hk, rfl, hall⟩ := hrel
    by_cases hkn : k < l.length
    · obtain ⟨b, o, rfl, hb, hcj⟩ := hcell (by intro e; subst e; simp at hkn)
      have hck := hcj k hkn
      clear hcj hcell
      have hlt : decide (k < l.length) = true := by simpa using hkn
      have hkl : l.getD k 0 = l[k] := by simp [List.getD, hkn]
      cases hpk : p (l.getD k 0)
      all_goals
        have HP := Lib.hid hpk; clear hpk
        have HK := Lib.hid hkl; clear hkl
        go_wp2_with fail
        refine (hp _ _).mono ?_
        rintro e w' ⟨rfl, rfl⟩
        rw [← HK.out, HP.out]
        go_wp2
      · go_ret
        exact ⟨ret_int (by rw [HR.out, run_eq hall (by omega) (fun _ => HP.out)]), rfl⟩
      · go_round
        case rel =>
          refine ⟨k + 1, by omega, by go_num, fun j hj => ?_⟩
          by_cases hjk : j < k
          · exact hall j hjk
          · obtain rfl : j = k := by omega
            exact HP.out
        case measure => simp [intOf]; omega
    · go_wp2
      go_ret
      exact ⟨ret_int (by rw [HR.out, run_eq hall (by omega) (fun h => absurd h hkn)]), rfl⟩

set_option maxRecDepth 100000 in
set_option maxHeartbeats 1000000 in
theorem forward_c (r : Nat) (t : ByteArray) (a n : Nat) (line col name : Int) (w : World) (hR : Rdr w r t a line col name) (hn : a + n ≤ t.size) (ht : t.size ≤ 1100000)
    (hl : 0 ≤ line ∧ line ≤ 2200000) (hc : 0 ≤ col ∧ col ≤ 2200000) :
    Calls Tryz.prog 54 #[.pointer (some ⟨r, 0, none⟩), .int .i64 n] w fun e w' =>
      e = .returned (.string (t.extract a (a + n))) ∧
      Rdr w' r t (a + n) (Lx.adv ((t.data.toList.drop a).take n) (line, col)).1 (Lx.adv ((t.data.toList.drop a).take n) (line, col)).2 name ∧ Kp [r] w w' := by
  obtain ⟨f0, f1, f2, f3, f4, fz, hlt⟩ := hR.facts
  go_enter Tryz.func54, Tryz.ntmps54
  have hcv : ∀ (w : World) (s : ByteArray), (convert 9 50 (.string s)).run Tryz.prog w = .ok (.slice (some ⟨w.heap.size, 0, none⟩) s.size (grownCap w s.size 0 5)) (Lib.bytesWorld w 5 s) := fun w s =>
    Lib.run_convert_string_bytes w _ _ _ s Tryz.underlying9 Tryz.underlying50 Tryz.underlying5
  go_wp2
  go_quiet (fail)
  go_wp2
  have hbs : (t.extract a (a + n)).size = n := by simp [ByteArray.size_extract]; omega
  have hbd : (t.extract a (a + n)).data.toList = (t.data.toList.drop a).take n := by rw [ext_list]; congr 1; omega
  have hRb : Rdr (Lib.bytesWorld (w.drewN nq) 5 (t.extract a (a + n))) r t a line col name := hR.keep ((Kp.refl [] w).drewN nq |>.bytesWorld _ _) (by simp)
  have hKb : Kp [r] w (Lib.bytesWorld (w.drewN nq) 5 (t.extract a (a + n))) := (((Kp.refl [] w).drewN nq).bytesWorld _ _).nil
  have hCb : ∀ j, j < n → (Lib.bytesWorld (w.drewN nq) 5 (t.extract a (a + n))).cell? ⟨w.heap.size, j, none⟩ = some (.int .u8 (((t.data.toList.drop a).take n).getD j 0).toNat) := fun j hj => by
    rw [← hbd]; exact Lib.bytesWorld_cell (w.drewN nq) _ _ j (by omega)
  have hzb : w.heap.size + 1 ≤ (Lib.bytesWorld (w.drewN nq) 5 (t.extract a (a + n))).heap.size := by rw [Lib.bytesWorld_size]; exact Nat.le_refl _
  obtain ⟨l, hl'⟩ : ∃ l, l = (t.data.toList.drop a).take n := ⟨_, rfl⟩
  have hll : l.length = n := by rw [hl', List.length_take, List.length_drop]; rw [size_list]; omega
  rw [← hl'] at hCb
  have HL := Lib.hid hl'; clear hl' hbd hbs hcv f0 f1 f2 f3 f4 fz
  have HLL := Lib.hid hll; clear hll
  go_loopw [28] (fun i wr => ∃ k : Nat, k ≤ n ∧ i = .int .i64 k ∧ Rdr wr r t a (Lx.adv (l.take k) (line, col)).1 (Lx.adv (l.take k) (line, col)).2 name ∧ Kp [r] w wr ∧
      (∀ j, j < n → wr.cell? ⟨w.heap.size, j, none⟩ = some (.int .u8 (l.getD j 0).toNat)) ∧ w.heap.size + 1 ≤ wr.heap.size) (fun i _ => n - (intOf i).toNat)
  case atStart => exact ⟨0, Nat.zero_le _, rfl, by simpa [Lx.adv] using hRb, hKb, hCb, hzb⟩
  case round =>
    obtain ⟨k, hk, rfl, hRk, hKk, hCk, hzk⟩ := hrel
    obtain ⟨f0, f1, f2, f3, f4, fz, hlt'⟩ := hRk.facts
    by_cases hkn : k < n
    · have hcell := hCk k hkn
      have hb := Lx.adv_bound (l.take k) (line, col)
      have hlk : (l.take k).length ≤ k := List.length_take_le _ _
      obtain ⟨b1, b2, b3, b4⟩ : 0 ≤ (Lx.adv (l.take k) (line, col)).1 ∧ (Lx.adv (l.take k) (line, col)).1 ≤ 3300000 ∧ 0 ≤ (Lx.adv (l.take k) (line, col)).2 ∧ (Lx.adv (l.take k) (line, col)).2 ≤ 3300001 := by
        obtain ⟨h1, h2, h3, h4⟩ := hb
        have h3 := h3 hc.1; have h4 := h4 hc.1
        simp only at h1 h2 h4
        omega
      clear hb hlk
      have hs := Lx.adv_succ l k (by rw [HLL.out]; exact hkn) (line, col)
      have HS := Lib.hid hs; clear hs
      have hne : r ≠ w.heap.size := by omega
      go_wp2
      · go_roundw
        case rel =>
          have h10 : l.getD k 0 = 10 := by
            have h : (((l[k]?.getD 0).toNat : Int) == 10) = true := by assumption
            exact byte_eq (by have := eq_of_beq h; simpa [List.getD] using this)
          refine ⟨k + 1, by omega, by go_num, ?_, ?_, ?_, ?_⟩
          · rw [HS.out, Lx.adv1, if_pos h10]; exact ((hRk.col' _).line' _).col' _
          · exact ((hKk.setCell (by simp) _).setCell (by simp) _).setCell (by simp) _
          · intro j hj
            rw [cell_other (by simpa using hne.symm), cell_other (by simpa using hne.symm), cell_other (by simpa using hne.symm)]; exact hCk j hj
          · simp only [size_setCell]; exact hzk
        case measure => simp [intOf]; omega
      · go_roundw
        case rel =>
          have h10 : l.getD k 0 ≠ 10 := by
            intro e
            have h : (((l[k]?.getD 0).toNat : Int) == 10) = false := by assumption
            rw [show l[k]?.getD 0 = 10 from by simpa [List.getD] using e] at h; simp at h
          refine ⟨k + 1, by omega, by go_num, ?_, ?_, ?_, ?_⟩
          · rw [HS.out, Lx.adv1, if_neg h10]; exact hRk.col' _
          · exact hKk.setCell (by simp) _
          · intro j hj
            rw [cell_other (by simpa using hne.symm)]; exact hCk j hj
          · simp only [size_setCell]; exact hzk
        case measure => simp [intOf]; omega
    · obtain rfl : k = n := by omega
      go_wp2
      go_ret
      rw [show l.take k = l from List.take_of_length_le (by rw [HLL.out]; exact Nat.le_refl _)] at hRk
      exact ⟨rfl, by rw [← HL.out]; exact hRk.at' _, hKk.setCell (by simp) _⟩

end Go.Proofs.YtogmealngeejmaaGreatDoor
