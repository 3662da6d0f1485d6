/- The lexer's small functions: letters, digits, operators; need; the reader's next, colon, rest, forward. -/
import Derived.Test.YtogmealngeejmaaDoorProg
import Derived.Test.YtogmealngeejmaaDoorBase
import Derived.Test.YtogmealngeejmaaDoorLexS
import Derived.Test.YtogmealngeejmaaDoorQuietTail
import Derived.Test.YtogmealngeejmaaDoorShelf
import Derived.Deep.QuietTactic
import Derived.BigQuiet
namespace Go.Proofs.YtogmealngeejmaaDoor
open Go Go.RowKit

theorem byte_eq {b : UInt8} (h : (b.toNat : Int) = 10) : b = 10 := UInt8.toNat_inj.1 (by simpa using (by omega : b.toNat = 10))
theorem byte_is {b : UInt8} {n : Nat} (h : b.toNat = n) : b = UInt8.ofNat n := by rw [← h]; simp
theorem byte_lt (b : UInt8) : (b.toNat : Int) < 256 := by have := b.toNat_lt; omega

set_option maxRecDepth 100000 in
set_option maxHeartbeats 400000 in
theorem isSmall_c (b : UInt8) (w : World) : Calls Tryd.prog 47 #[.int .u8 b.toNat] w fun e w' => e = .returned (.bool (Lx.small b)) ∧ w = w' := by
  have hb := byte_lt b
  unfold Lx.small
  go_enter Tryd.func47, Tryd.ntmps47
  go_wp2
  all_goals go_ret
  all_goals simp [*]
  omega

set_option maxRecDepth 100000 in
set_option maxHeartbeats 400000 in
theorem isLarge_c (b : UInt8) (w : World) : Calls Tryd.prog 48 #[.int .u8 b.toNat] w fun e w' => e = .returned (.bool (Lx.large b)) ∧ w = w' := by
  have hb := byte_lt b
  unfold Lx.large
  go_enter Tryd.func48, Tryd.ntmps48
  go_wp2
  all_goals go_ret
  all_goals simp [*]
  omega

set_option maxRecDepth 100000 in
set_option maxHeartbeats 400000 in
theorem isDigit_c (b : UInt8) (w : World) : Calls Tryd.prog 69 #[.int .u8 b.toNat] w fun e w' => e = .returned (.bool (Lx.digit b)) ∧ w = w' := by
  have hb := byte_lt b
  unfold Lx.digit
  go_enter Tryd.func69, Tryd.ntmps69
  go_wp2
  all_goals go_ret
  all_goals simp [*]
  omega

set_option maxRecDepth 100000 in
set_option maxHeartbeats 400000 in
theorem isLetter_c (b : UInt8) (w : World) : Calls Tryd.prog 30 #[.int .u8 b.toNat] w fun e w' => e = .returned (.bool (Lx.letter b)) ∧ w = w' := by
  have hb := byte_lt b
  unfold Lx.letter
  cases hs : Lx.small b
  all_goals
    have HS := Lib.hid hs; clear hs
    go_enter Tryd.func30, Tryd.ntmps30
    go_wp2_with (first | (go_at_call 47; refine (isSmall_c b _).mono ?_; rintro e w' ⟨rfl, rfl⟩; rw [HS.out]) | (go_at_call 48; refine (isLarge_c b _).mono ?_; rintro e w' ⟨rfl, rfl⟩))
    go_ret
    exact ⟨by simp, rfl⟩

set_option maxRecDepth 100000 in
set_option maxHeartbeats 400000 in
theorem isWord_c (b : UInt8) (w : World) : Calls Tryd.prog 84 #[.int .u8 b.toNat] w fun e w' => e = .returned (.bool (Lx.wordy b)) ∧ w = w' := by
  have hb := byte_lt b
  unfold Lx.wordy
  cases hs : Lx.letter b
  all_goals
    have HS := Lib.hid hs; clear hs
    go_enter Tryd.func84, Tryd.ntmps84
    go_wp2_with (first | (go_at_call 30; refine (isLetter_c b _).mono ?_; rintro e w' ⟨rfl, rfl⟩; rw [HS.out]) | (go_at_call 69; refine (isDigit_c b _).mono ?_; rintro e w' ⟨rfl, rfl⟩))
    go_ret
    exact ⟨by simp, rfl⟩

set_option maxRecDepth 100000 in
set_option maxHeartbeats 400000 in
theorem isBlank_c (b : UInt8) (w : World) : Calls Tryd.prog 78 #[.int .u8 b.toNat] w fun e w' => e = .returned (.bool (Lx.blank b)) ∧ w = w' := by
  have hb := byte_lt b
  unfold Lx.blank
  go_enter Tryd.func78, Tryd.ntmps78
  go_wp2
  all_goals go_ret
  all_goals simp [*]

set_option maxRecDepth 100000 in
set_option maxHeartbeats 400000 in
theorem strb_c (b : UInt8) (w : World) : Calls Tryd.prog 86 #[.int .u8 b.toNat] w fun e w' => e = .returned (.bool (Lx.strb b)) ∧ w = w' := by
  have hb := byte_lt b
  unfold Lx.strb
  go_enter Tryd.func86, Tryd.ntmps86
  go_wp2
  all_goals go_ret
  all_goals simp [*]
  all_goals (try omega)

theorem byte_back (b : UInt8) : ((b.toNat : Int)).toNat.toUInt8 = b := by simp

set_option maxRecDepth 100000 in
set_option maxHeartbeats 400000 in
theorem isOp_c (b : UInt8) (w : World) : Calls Tryd.prog 31 #[.int .u8 b.toNat] w fun e w' => e = .returned (.bool (Lx.isop b)) ∧ w = w' := by
  have hb := byte_lt b
  go_enter Tryd.func31, Tryd.ntmps31
  go_wp2_with (go_at_call 49; refine (Tryd.strings_IndexByte _ _ _).mono ?_; rintro e w' ⟨rfl, hw⟩; subst hw)
  go_ret
  exact ⟨by unfold Lx.isop Lx.ops; rw [Lib.contains_iff_indexByte]; simp, rfl⟩

set_option maxRecDepth 100000 in
set_option maxHeartbeats 400000 in
theorem isSign_c (b : UInt8) (w : World) : Calls Tryd.prog 74 #[.int .u8 b.toNat] w fun e w' => e = .returned (.bool (Lx.issign b)) ∧ w = w' := by
  have hb := byte_lt b
  go_enter Tryd.func74, Tryd.ntmps74
  go_wp2_with (go_at_call 49; refine (Tryd.strings_IndexByte _ _ _).mono ?_; rintro e w' ⟨rfl, hw⟩; subst hw)
  go_ret
  exact ⟨by unfold Lx.issign Lx.signs; rw [Lib.contains_iff_indexByte]; simp, rfl⟩

set_option maxRecDepth 100000 in
set_option maxHeartbeats 400000 in
theorem need_no (e at_ : Int) (w : World) : Calls Tryd.prog 56 #[.bool false, .int .i64 e, .int .i64 at_] w fun en w' =>
    en = .panicked [{ v := .iface 85 (.agg #[.int .i64 e, .int .i64 at_]), recovered := false }] ∧ w = w' := by
  go_enter Tryd.func56, Tryd.ntmps56
  go_wp2
  exact ⟨rfl, rfl, rfl⟩

set_option maxRecDepth 100000 in
set_option maxHeartbeats 400000 in
theorem need_yes (e at_ : Int) (w : World) : Calls Tryd.prog 56 #[.bool true, .int .i64 e, .int .i64 at_] w fun en w' => en = .returned (.tuple #[]) ∧ w = w' := by
  go_enter Tryd.func56, Tryd.ntmps56
  go_wp2
  go_end0
  exact ⟨rfl, rfl⟩

/-- The reader at r: what its block holds. -/
def Rdr (w : World) (r : Nat) (t : ByteArray) (a line col name : Int) : Prop :=
  w.heap[r]? = some (.cells #[.int .i64 a, .int .i64 line, .int .i64 col, .string t, .int .i64 name] 64 (0, 0))

theorem Rdr.facts {w : World} {r : Nat} {t : ByteArray} {a line col name : Int} (h : Rdr w r t a line col name) :
    w.cell? ⟨r, 0, none⟩ = some (.int .i64 a) ∧ w.cell? ⟨r, 1, none⟩ = some (.int .i64 line) ∧ w.cell? ⟨r, 2, none⟩ = some (.int .i64 col) ∧
    w.cell? ⟨r, 3, none⟩ = some (.string t) ∧ w.cell? ⟨r, 4, none⟩ = some (.int .i64 name) ∧ (∀ o, w.frozen? ⟨r, o, none⟩ = false) ∧ r < w.heap.size :=
  ⟨cell_of_block h 0, cell_of_block h 1, cell_of_block h 2, cell_of_block h 3, cell_of_block h 4, free_of_block h, lt_of_block h⟩

theorem Rdr.keep {S : List Nat} {w w' : World} {r : Nat} {t : ByteArray} {a line col name : Int} (h : Rdr w r t a line col name) (k : Kp S w w') (hr : r ∉ S) : Rdr w' r t a line col name := k.heap h hr
theorem Rdr.at' {w : World} {r : Nat} {t : ByteArray} {a line col name : Int} (h : Rdr w r t a line col name) (x : Int) : Rdr (w.setCell ⟨r, 0, none⟩ (.int .i64 x)) r t x line col name := block_setCell h 0 _
theorem Rdr.line' {w : World} {r : Nat} {t : ByteArray} {a line col name : Int} (h : Rdr w r t a line col name) (x : Int) : Rdr (w.setCell ⟨r, 1, none⟩ (.int .i64 x)) r t a x col name := block_setCell h 1 _
theorem Rdr.col' {w : World} {r : Nat} {t : ByteArray} {a line col name : Int} (h : Rdr w r t a line col name) (x : Int) : Rdr (w.setCell ⟨r, 2, none⟩ (.int .i64 x)) r t a line x name := block_setCell h 2 _
theorem Rdr.name' {w : World} {r : Nat} {t : ByteArray} {a line col name : Int} (h : Rdr w r t a line col name) (x : Int) : Rdr (w.setCell ⟨r, 4, none⟩ (.int .i64 x)) r t a line col x := block_setCell h 4 _

theorem Rdr.drew {w : World} {r : Nat} {t : ByteArray} {a line col name : Int} (h : Rdr w r t a line col name) (n : Nat) : Rdr (w.drewN n) r t a line col name := h

theorem nx_get (t : ByteArray) (a : Nat) (n : Int) (h0 : 0 ≤ n) : Lx.nx (t.data.toList.drop a) n = t.data.toList.getD (a + n).toNat 0 := by
  unfold Lx.nx
  rw [show ((a : Int) + n).toNat = a + n.toNat by omega]
  simp [List.getD, List.getElem?_drop]

set_option maxRecDepth 100000 in
set_option maxHeartbeats 400000 in
theorem next_c (r : Nat) (t : ByteArray) (a : Nat) (line col name n : Int) (w : World) (hR : Rdr w r t a line col name) (h0 : 0 ≤ n) (h1 : n ≤ 1000000) (ha : a ≤ t.size) (ht : t.size ≤ 1000000) :
    Calls Tryd.prog 61 #[.pointer (some ⟨r, 0, none⟩), .int .i64 n] w fun e w' => e = .returned (.int .u8 (Lx.nx (t.data.toList.drop a) n).toNat) ∧ ∃ m, w' = w.drewN m := by
  obtain ⟨f0, f1, f2, f3, f4, fz, hlt⟩ := hR.facts
  rw [nx_get t a n h0]
  obtain ⟨c, hc⟩ : ∃ c, c = t.data.toList.getD (a + n).toNat 0 := ⟨_, rfl⟩
  rw [← hc]
  have HC := Lib.hid hc; clear hc
  go_enter Tryd.func61, Tryd.ntmps61
  go_wp2
  go_quiet (fail)
  by_cases hlt : a + n < t.size
  · have h2 : 0 ≤ (a : Int) + n := by omega
    go_wp2
    go_quiet (fail)
    go_wp2
    go_ret
    exact ⟨ret_int (by rw [HC.out, getD_byte t _ (by omega)]), _, World.drewN_drewN _ _ _⟩
  · go_wp2
    go_ret
    exact ⟨ret_int (by rw [HC.out, getD_past t _ (by omega)]; rfl), _, rfl⟩

set_option maxRecDepth 100000 in
set_option maxHeartbeats 400000 in
theorem colon_c (r : Nat) (t : ByteArray) (a : Nat) (line col name n : Int) (w : World) (hR : Rdr w r t a line col name) (h0 : 0 ≤ n) (h1 : n ≤ 1000000) (ha : a ≤ t.size) (ht : t.size ≤ 1000000) :
    Calls Tryd.prog 85 #[.pointer (some ⟨r, 0, none⟩), .int .i64 n] w fun e w' => e = .returned (.int .i64 (Lx.colon (t.data.toList.drop a) n)) ∧ ∃ m, w' = w.drewN m := by
  unfold Lx.colon
  obtain ⟨c, hc⟩ : ∃ c, c = Lx.nx (t.data.toList.drop a) n := ⟨_, rfl⟩
  rw [← hc]
  have HC := Lib.hid hc; clear hc
  go_enter Tryd.func85, Tryd.ntmps85
  go_wp2_with (go_at_call 61; refine (next_c r t a line col name n _ hR h0 h1 ha ht).mono ?_; rintro e w' ⟨rfl, m, rfl⟩; rw [← HC.out])
  all_goals go_ret
  all_goals exact ⟨by simp [*], _, rfl⟩

end Go.Proofs.YtogmealngeejmaaDoor
