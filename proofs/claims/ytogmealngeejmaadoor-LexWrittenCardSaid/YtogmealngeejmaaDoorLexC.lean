/- The lexer: the reader with the bytes that are still to be read; its small methods, by these. -/
import Derived.Test.YtogmealngeejmaaDoorLexB
import Derived.Shelf.Abstract
namespace Go.Proofs.YtogmealngeejmaaDoor
open Go Go.RowKit

/-- The reader at r, with what is left to read: l. -/
structure RdL (w : World) (r : Nat) (t : ByteArray) (a : Nat) (l : Lx.Bs) (line col name : Int) : Prop where
  rdr : Rdr w r t a line col name
  left : t.data.toList.drop a = l
  le : a ≤ t.size
  size : t.size ≤ 1000000
  line0 : 0 ≤ line
  line1 : line ≤ a + 1
  col0 : 0 ≤ col
  col1 : col ≤ a + 1

theorem RdL.length {w : World} {r : Nat} {t : ByteArray} {a : Nat} {l : Lx.Bs} {line col name : Int} (h : RdL w r t a l line col name) : a + l.length = t.size := by
  rw [← h.left, List.length_drop, size_list]; have := h.le; omega
theorem RdL.keep {S : List Nat} {w w' : World} {r : Nat} {t : ByteArray} {a : Nat} {l : Lx.Bs} {line col name : Int} (h : RdL w r t a l line col name) (k : Kp S w w') (hr : r ∉ S) : RdL w' r t a l line col name :=
  ⟨h.rdr.keep k hr, h.left, h.le, h.size, h.line0, h.line1, h.col0, h.col1⟩
theorem RdL.drew {w : World} {r : Nat} {t : ByteArray} {a : Nat} {l : Lx.Bs} {line col name : Int} (h : RdL w r t a l line col name) (n : Nat) : RdL (w.drewN n) r t a l line col name :=
  ⟨h.rdr, h.left, h.le, h.size, h.line0, h.line1, h.col0, h.col1⟩
theorem RdL.name' {w : World} {r : Nat} {t : ByteArray} {a : Nat} {l : Lx.Bs} {line col name : Int} (h : RdL w r t a l line col name) (x : Int) : RdL (w.setCell ⟨r, 4, none⟩ (.int .i64 x)) r t a l line col x :=
  ⟨h.rdr.name' x, h.left, h.le, h.size, h.line0, h.line1, h.col0, h.col1⟩
theorem RdL.lt {w : World} {r : Nat} {t : ByteArray} {a : Nat} {l : Lx.Bs} {line col name : Int} (h : RdL w r t a l line col name) : r < w.heap.size := h.rdr.facts.2.2.2.2.2.2

section
variable {w : World} {r : Nat} {t : ByteArray} {a : Nat} {l : Lx.Bs} {line col name : Int}

theorem next_l (n : Int) (h : RdL w r t a l line col name) (h0 : 0 ≤ n) (h1 : n ≤ 1000000) :
    Calls Tryd.prog 61 #[.pointer (some ⟨r, 0, none⟩), .int .i64 n] w fun e w' => e = .returned (.int .u8 (Lx.nx l n).toNat) ∧ ∃ m, w' = w.drewN m := by
  have := next_c r t a line col name n w h.rdr h0 h1 h.le h.size
  rwa [h.left] at this

theorem colon_l (n : Int) (h : RdL w r t a l line col name) (h0 : 0 ≤ n) (h1 : n ≤ 1000000) :
    Calls Tryd.prog 85 #[.pointer (some ⟨r, 0, none⟩), .int .i64 n] w fun e w' => e = .returned (.int .i64 (Lx.colon l n)) ∧ ∃ m, w' = w.drewN m := by
  have := colon_c r t a line col name n w h.rdr h0 h1 h.le h.size
  rwa [h.left] at this

theorem rest_l (h : RdL w r t a l line col name) :
    Calls Tryd.prog 77 #[.pointer (some ⟨r, 0, none⟩)] w fun e w' => (∃ v, e = .returned v ∧ BSl w' v l) ∧ Kp [] w w' := by
  have := rest_c r t a line col name w h.rdr h.le h.size
  rwa [h.left] at this

/-- A string of the text, as a list. -/
theorem ext_string (t : ByteArray) (a n : Nat) : Value.string (t.extract a (a + n)) = .string ⟨((t.data.toList.drop a).take n).toArray⟩ := by
  congr 1
  have : (t.extract a (a + n)).data.toList = (t.data.toList.drop a).take n := by rw [ext_list]; congr 1; omega
  rw [← this]

theorem forward_l (n : Int) (h : RdL w r t a l line col name) (h0 : 0 ≤ n) (h1 : n ≤ l.length) :
    Calls Tryd.prog 27 #[.pointer (some ⟨r, 0, none⟩), .int .i64 n] w fun e w' =>
      e = .returned (.string ⟨(l.take n.toNat).toArray⟩) ∧
      RdL w' r t (a + n.toNat) (l.drop n.toNat) (Lx.adv (l.take n.toNat) (line, col)).1 (Lx.adv (l.take n.toNat) (line, col)).2 name ∧ Kp [r] w w' := by
  obtain ⟨n, rfl⟩ := Int.eq_ofNat_of_zero_le h0
  have hl := h.length
  have b1 := h.line0; have b2 := h.line1; have b3 := h.col0; have b4 := h.col1; have b5 := h.size
  have h1' : n ≤ l.length := by omega
  refine (forward_c r t a n line col name w h.rdr (by omega) h.size ⟨b1, by omega⟩ ⟨b3, by omega⟩).mono ?_
  rintro e w' ⟨rfl, hr, hk⟩
  rw [h.left] at hr
  rw [ext_string, h.left, Int.toNat_natCast]
  have hb := Lx.adv_bound (l.take n) (line, col)
  have hlt : (l.take n).length = n := by rw [List.length_take]; omega
  simp only [hlt] at hb
  refine ⟨rfl, ⟨hr, ?_, by omega, h.size, by omega, by omega, hb.2.2.1 b3, ?_⟩, hk⟩
  · rw [← List.drop_drop, h.left]
  · have := hb.2.2.2 b3
    by_cases hn : n = 0
    · subst hn; simp [Lx.adv]; omega
    · have hadv := Lx.adv_col (l.take n) (line, col) b3
      rw [hlt] at hadv
      simp only at hadv
      omega
end

/-- The reader that stood at a, with l to read, m bytes further on. -/
structure RdC (w : World) (r : Nat) (t : ByteArray) (a : Nat) (l : Lx.Bs) (line col name : Int) (m : Nat) : Prop where
  fit : m ≤ l.length
  rd : RdL w r t (a + m) (l.drop m) (Lx.adv (l.take m) (line, col)).1 (Lx.adv (l.take m) (line, col)).2 name

section
variable {w : World} {r : Nat} {t : ByteArray} {a : Nat} {l : Lx.Bs} {line col name : Int} {m : Nat}
theorem RdL.begin (h : RdL w r t a l line col name) : RdC w r t a l line col name 0 := ⟨Nat.zero_le _, h⟩
theorem RdC.keep {S : List Nat} {w' : World} (h : RdC w r t a l line col name m) (k : Kp S w w') (hr : r ∉ S) : RdC w' r t a l line col name m := ⟨h.fit, h.rd.keep k hr⟩
theorem RdC.drew (h : RdC w r t a l line col name m) (n : Nat) : RdC (w.drewN n) r t a l line col name m := ⟨h.fit, h.rd.drew n⟩
theorem forward_m (n : Int) (h : RdC w r t a l line col name m) (h0 : 0 ≤ n) (h1 : m + n ≤ l.length) :
    Calls Tryd.prog 27 #[.pointer (some ⟨r, 0, none⟩), .int .i64 n] w fun e w' =>
      e = .returned (.string ⟨((l.drop m).take n.toNat).toArray⟩) ∧ RdC w' r t a l line col name (m + n.toNat) ∧ Kp [r] w w' := by
  refine (forward_l n h.rd h0 (by rw [List.length_drop]; omega)).mono ?_
  rintro e w' ⟨rfl, hr, hk⟩
  refine ⟨rfl, ⟨by omega, ?_⟩, hk⟩
  rw [List.drop_drop, ← Lx.adv_append] at hr
  rw [← Nat.add_assoc]
  have e : l.take m ++ (l.drop m).take n.toNat = l.take (m + n.toNat) := by rw [List.take_add]
  rwa [e] at hr
end

theorem quiet_same {P : Program} {f : FuncId} {args : Array Value} {w : World} {n : Nat} {v : Value}
    (h : Calls P f args (w.drewN n) fun e w' => e = .returned v ∧ w.drewN n = w') : Calls P f args (w.drewN n) fun e w'' => e = .returned v ∧ ∃ m, w'' = w.drewN m :=
  h.mono fun _ _ ⟨he, hm⟩ => ⟨he, n, hm.symm⟩

end Go.Proofs.YtogmealngeejmaaDoor
