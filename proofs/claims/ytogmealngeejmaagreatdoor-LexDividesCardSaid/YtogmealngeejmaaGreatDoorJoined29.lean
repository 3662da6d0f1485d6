import Derived.Test.YtogmealngeejmaaGreatDoorJoined23
/- Print: what is printed; the builder through other calls. -/
namespace Go.Proofs.YtogmealngeejmaaGreatDoor
open Go Go.RowKit Go.Shelf Go.Proofs

/-- What is written for token number i: none: it may not stand there. -/
def Lx.part (l : List Tok) (i : Nat) : Option Lx.Bs :=
  match l[i]? with
  | none => none
  | some x =>
    if x.kind = 9 then
      match i, l[i + 1]? with
      | i' + 1, some y =>
        match l[i']? with
        | some p => if p.kind = 1 ∧ (Lx.letter (Lx.nx (Lx.spelled y) 0) || Lx.isop (Lx.nx (Lx.spelled y) 0)) = true then some (Lx.spelled x) else none
        | none => none
      | _, _ => none
    else
      match i with
      | 0 => some (Lx.spelled x)
      | i' + 1 => match l[i']? with
        | some p => some ((if p.kind = 9 then [] else [32]) ++ Lx.spelled x)
        | none => none

def Lx.printTo (l : List Tok) : Nat → Option Lx.Bs
  | 0 => some []
  | k + 1 => match Lx.printTo l k with
    | none => none
    | some a => match Lx.part l k with
      | none => none
      | some b => some (a ++ b)

def Lx.print (l : List Tok) : Lx.Bs × Int :=
  if Lx.check l ≠ 0 then ([], Lx.check l)
  else match Lx.printTo l l.length with
    | none => ([], 13)
    | some s => if 20000 < s.length then ([], 2) else (s, 0)

theorem Lx.printTo_none {l : List Tok} {k : Nat} : ∀ n, k < n → Lx.printTo l k ≠ none → Lx.part l k = none → Lx.printTo l n = none := by
  intro n
  induction n with
  | zero => intro h; omega
  | succ n ih =>
    intro h hp hn
    by_cases he : k = n
    · subst he
      cases hq : Lx.printTo l k with
      | none => simp [Lx.printTo, hq]
      | some a => simp [Lx.printTo, hq, hn]
    · have := ih (by omega) hp hn
      simp [Lx.printTo, this]

theorem Lx.spelled_len (x : Tok) : (Lx.spelled x).length ≤ 2 * x.text.length + 2 := by
  have := Lx.dbl_len x.text
  unfold Lx.spelled
  split
  · simp; omega
  · omega

theorem Lx.part_len {l : List Tok} {k : Nat} {b : Lx.Bs} {x : Tok} (hx : l[k]? = some x) (h : Lx.part l k = some b) : b.length ≤ 2 * x.text.length + 3 := by
  have := Lx.spelled_len x
  unfold Lx.part at h
  rw [hx] at h
  simp only at h
  split at h
  · split at h
    · split at h
      · split at h
        · cases h; omega
        · cases h
      · cases h
    · cases h
  · split at h
    · cases h; omega
    · split at h
      · cases h
        rename_i p _
        by_cases hp : p.kind = 9
        · rw [if_pos hp]; simp; omega
        · rw [if_neg hp]; simp; omega
      · cases h

theorem Lx.printTo_len {l : List Tok} (hl : ∀ x ∈ l, x.text.length ≤ 1100000) : ∀ (k : Nat) (s : Lx.Bs), Lx.printTo l k = some s → s.length ≤ k * 2200003 := by
  intro k
  induction k with
  | zero => intro s h; simp [Lx.printTo] at h; subst h; simp
  | succ k ih =>
    intro s h
    simp only [Lx.printTo] at h
    split at h
    · cases h
    · rename_i a ha
      split at h
      · cases h
      · rename_i b hb
        cases h
        have h1 := ih a ha
        obtain ⟨x, hx⟩ : ∃ x, l[k]? = some x := by
          cases hx : l[k]? with
          | some x => exact ⟨x, rfl⟩
          | none => rw [Lx.part, hx] at hb; cases hb
        have h2 := Lx.part_len hx hb
        have h3 := hl x (List.mem_of_getElem? hx)
        simp only [List.length_append]
        rw [Nat.succ_mul]
        omega

/-- What is right is not empty when it is spelled. -/
theorem Lx.spelled_ne {x : Tok} (h : Lx.right x = true) : Lx.spelled x ≠ [] := by
  unfold Lx.spelled
  split
  · simp
  · rename_i h6
    unfold Lx.right at h
    split at h
    · cases h
    · split at h
      · intro e; rw [e] at h; simp at h
      · intro e
        rw [e] at h
        have hk : Lx.kind [] = 0 := by decide
        rw [hk] at h
        simp at h
        exact h.1 h.2.symm

theorem Lx.check_right {l : List Tok} (h : Lx.check l = 0) : l.length ≤ 6000 ∧ ∀ x ∈ l, Lx.right x = true := by
  unfold Lx.check at h
  split at h
  · cases h
  · split at h
    · cases h
    · rename_i h1 h2
      refine ⟨by omega, fun x hx => ?_⟩
      simp at h2
      exact h2 x hx

/-- A builder is one still where what lies is kept. -/
theorem IsBuilderF_keep {T e : TypeId} {B b : Nat} {bs : List Value} {w w' : World} (h : Lib.IsBuilderF T e B b bs w) (k : Kp [] w w') : Lib.IsBuilderF T e B b bs w' := by
  have one : ∀ p, Lib.BuilderAtF T e B b p bs w → Lib.BuilderAtF T e B b p bs w' := by
    rintro p ⟨hB, v, hb, hown, hne⟩
    refine ⟨hB, v, k.heap hb (by simp), ⟨hown.1, ?_⟩, hne⟩
    rcases hown.2 with h | ⟨g, cap, cur, fz, h1, h2, h3, h4⟩
    · exact .inl h
    · exact .inr ⟨g, cap, cur, fz, h1, h2, k.heap h3 (by simp), h4⟩
  rcases h with h | h
  · exact .inl (one _ h)
  · exact .inr (one _ h)

theorem IsBuilderF_new {T e : TypeId} {w : World} {b : Nat} (hb : w.heap[b]? = some (.cells #[.pointer none, .slice none 0 0] T (0, 0))) : Lib.IsBuilderF T e b b [] w :=
  .inl ⟨Nat.le_refl _, _, hb, ⟨rfl, .inl ⟨rfl, rfl⟩⟩, by simp [Value.ownBlock]⟩

theorem Kp.below_trans {w w1 w2 : World} {B : Nat} (h : Kp [] w w1) (hb : Below B w1 w2) (hB : w.heap.size ≤ B) : Kp [] w w2 :=
  ⟨hb.os.trans h.os, hb.tape.trans h.tape, hb.output.trans h.output, Nat.le_trans h.size hb.size, fun k hk hn => (hb.block k (by omega)).trans (h.block k hk hn)⟩

theorem writeString_k (B b : Nat) (bs : List Value) (s : ByteArray) (w : World) (h : Lib.IsBuilderF 52 5 B b bs w) (hlen : bs.length + s.size ≤ 140737488355328) (hBw : B ≤ w.heap.size) :
    Calls Tryz.prog 33 #[.pointer (some ⟨b, 0, none⟩), .string s] w fun e w' => e = .returned (.tuple #[.int .i64 s.size, .nilIface]) ∧ (Lib.IsBuilderF 52 5 B b (bs ++ Lib.strCells s) w' ∧ Below B w w' ∧ Lib.OthersKept 5 (some b) w w') :=
  (Any.Builder_WriteString_k lays166 extra166 B b bs s w h hlen hBw).mono fun _ _ ⟨h1, h2, h3⟩ => ⟨h1, .inr h2, h3⟩

theorem writeByte_k (B b : Nat) (bs : List Value) (c : Int) (w : World) (h : Lib.IsBuilderF 52 5 B b bs w) (hlen : bs.length + 1 ≤ 140737488355328) (hBw : B ≤ w.heap.size) :
    Calls Tryz.prog 32 #[.pointer (some ⟨b, 0, none⟩), .int .u8 c] w fun e w' => e = .returned .nilIface ∧ (Lib.IsBuilderF 52 5 B b (bs ++ [.int .u8 c]) w' ∧ Below B w w' ∧ Lib.OthersKept 5 (some b) w w') :=
  (Any.Builder_WriteByte_k lays167 extra167 B b bs c w h hlen hBw).mono fun _ _ ⟨h1, h2, h3⟩ => ⟨h1, .inr h2, h3⟩

end Go.Proofs.YtogmealngeejmaaGreatDoor

/- Print. -/
namespace Go.Proofs.YtogmealngeejmaaGreatDoor
open Go Go.RowKit


set_option maxRecDepth 100000 in
set_option maxHeartbeats 4000000 in
theorem print_c (l : List Tok) (v : Value) (w : World) (hr : Rd w v 4 cellsTk l) (hx : ∀ x ∈ l, x.text.length ≤ 1100000) (hm : ∃ m, w.cell? ⟨0, 0, none⟩ = some (.int .i64 m)) :
    Calls Tryz.prog 8 #[v] w fun e w' => e = .returned (.tuple #[.string ⟨(Lx.print l).1.toArray⟩, .int .i64 (Lx.print l).2]) ∧ Kp [] w w' := by
  obtain ⟨P0, hP0⟩ : ∃ P0 : Ending → World → Prop, P0 = fun e w' => e = .returned (.tuple #[.string ⟨(Lx.print l).1.toArray⟩, .int .i64 (Lx.print l).2]) ∧ Kp [] w w' := ⟨_, rfl⟩
  rw [← hP0]
  have hp : Lx.print l = (if Lx.check l ≠ 0 then ([], Lx.check l) else match Lx.printTo l l.length with
    | none => ([], 13)
    | some s => if 20000 < s.length then ([], 2) else (s, 0)) := rfl
  obtain ⟨R, hR⟩ : ∃ R, R = Lx.print l := ⟨_, rfl⟩
  rw [← hR] at hp hP0
  clear hR
  have HP0 := Lib.hid hP0; clear hP0
  have hcr := @Lx.check_right l
  have HC := check_c l v w hr hx
  obtain ⟨ck, hck⟩ : ∃ ck, ck = Lx.check l := ⟨_, rfl⟩
  rw [← hck] at hp hcr HC
  clear hck
  have HCK := Lib.hid HC; clear HC
  obtain ⟨bs, cap, rfl, hcell⟩ := hr.view
  have HCE := Lib.hid hcell; clear hcell hr
  have HX := Lib.hid hx; clear hx
  have HM := Lib.hid hm; clear hm
  go_enter Tryz.func8, Tryz.ntmps8
  by_cases hc : ck = 0
  · subst hc
    rw [if_neg (by simp)] at hp
    obtain ⟨hl6, hright⟩ := hcr rfl
    clear hcr
    have HRI := Lib.hid hright; clear hright
    have HP := Lib.hid hp; clear hp
    go_wp2_with fail
    refine HCK.out.mono ?_
    rintro e w1 ⟨rfl, hk1⟩
    have HK1 := Lib.hid hk1; clear hk1
    go_wp2_with fail
    obtain ⟨w2, hw2⟩ : ∃ w2, w2 = w1.alloc (.cells #[.pointer none, .slice none 0 0] 52) := ⟨_, rfl⟩
    have hk2 : Kp [] w w2 := by rw [hw2]; exact HK1.out.alloc _
    have hb2 : w2.heap[w1.heap.size]? = some (.cells #[.pointer none, .slice none 0 0] 52 (0, 0)) := by rw [hw2]; exact heap_alloc_new w1 _
    have hwb : w.heap.size ≤ w1.heap.size := HK1.out.size
    rw [← hw2]
    clear hw2
    obtain ⟨b, hb⟩ : ∃ b, b = w1.heap.size := ⟨_, rfl⟩
    rw [← hb] at hb2 hwb ⊢
    clear hb
    have HB2 := Lib.hid hb2; clear hb2
    have HK2 := Lib.hid hk2; clear hk2 HK1
    go_loopg [16] l.length (fun n y wr => ∃ (k : Nat) (s : Lx.Bs), n = l.length - k ∧ y = .int .i64 k ∧ k ≤ l.length ∧ Hid (Lx.printTo l k = some s) ∧ Hid (Lib.IsBuilderF 52 5 b b (Lib.byteCells s) wr) ∧ Kp [] w wr ∧ b < wr.heap.size)
    case atStart => exact ⟨0, [], rfl, rfl, Nat.zero_le _, rfl, IsBuilderF_new HB2.out, HK2.out, lt_of_heap HB2.out⟩
    case round =>
      obtain ⟨k, s, rfl, rfl, hk, hs, hbu, hkp, hbl⟩ := hrel
      by_cases hkl : k < l.length
      · have hb' : decide ((k : Int) < l.length) = true := by simpa using hkl
        obtain ⟨x, hx⟩ : ∃ x, l[k]? = some x := ⟨l[k], by simp [hkl]⟩
        obtain ⟨g, o, rfl, hg, hxc⟩ := HCE.out k x hx
        have c0 : wr.cell? ⟨g, o + k * 4, none⟩ = some (.int .i64 x.kind) := (hkp.cell (p := ⟨g, _, none⟩) hg (by simp)).trans (hxc 0 _ rfl)
        have c1 : wr.cell? ⟨g, o + k * 4 + 1, none⟩ = some (.string ⟨x.text.toArray⟩) := (hkp.cell (p := ⟨g, _, none⟩) hg (by simp)).trans (hxc 1 _ rfl)
        have c2 : wr.cell? ⟨g, o + k * 4 + 2, none⟩ = some (.int .i64 x.line) := (hkp.cell (p := ⟨g, _, none⟩) hg (by simp)).trans (hxc 2 _ rfl)
        have c3 : wr.cell? ⟨g, o + k * 4 + 3, none⟩ = some (.int .i64 x.col) := (hkp.cell (p := ⟨g, _, none⟩) hg (by simp)).trans (hxc 3 _ rfl)
        have HXK := Lib.hid hx; clear hx
        clear hxc
        have hgr : g < wr.heap.size := Nat.lt_of_lt_of_le hg hkp.size
        by_cases k9 : x.kind = 9
        · have k9a : (x.kind == 9) = true := by simp [k9]
          have K9 := Lib.hid k9; clear k9
          have HKO : Hid (Kp [] w (wr.alloc (.cells #[.int .i64 x.kind, .string ⟨x.text.toArray⟩, .int .i64 x.line, .int .i64 x.col] 34))) := Lib.hid (hkp.alloc _)
          cases k with
          | zero =>
            have HNO : Hid (Lx.part l 0 = none) := Lib.hid (by unfold Lx.part; rw [HXK.out]; simp only; rw [if_pos K9.out])
            have HRN : Hid (R = ([], 13)) := Lib.hid (by rw [HP.out, Lx.printTo_none _ hkl (by rw [hs.out]; simp) HNO.out])
            simp only [Nat.zero_mul, Nat.add_zero] at c0 c1 c2 c3
            rw [show ((0 : Nat) : Int) = 0 from rfl] at hb' ⊢
            go_wp2_with fail
            rw [HP0.out]
            refine ⟨?_, HKO.out⟩
            rw [HRN.out]; rfl
          | succ k =>
            have hb2 : decide ((k : Int) + 1 < l.length) = true := decide_eq_true (by omega)
            obtain ⟨p, hp⟩ : ∃ p, l[k]? = some p := ⟨l[k], by simp [Nat.lt_of_succ_lt hkl]⟩
            obtain ⟨g', o', e', _, hpc⟩ := HCE.out k p hp
            obtain ⟨rfl, rfl⟩ : g = g' ∧ o = o' := by simpa using e'
            have p0 : wr.cell? ⟨g, o + k * 4, none⟩ = some (.int .i64 p.kind) := (hkp.cell (p := ⟨g, _, none⟩) hg (by simp)).trans (hpc 0 _ rfl)
            have HPP := Lib.hid hp; clear hp hpc e'
            have hSl : s.length ≤ 20000000000 := by have := Lx.printTo_len HX.out _ _ hs.out; omega
            by_cases hlast : k + 1 + 1 = l.length
            · have e1 : (((k : Nat) : Int) + 1 == (l.length : Int) - 1) = true := by simp; omega
              have HNO : Hid (Lx.part l (k + 1) = none) := Lib.hid (by
                unfold Lx.part; rw [HXK.out]; simp only; rw [if_pos K9.out, List.getElem?_eq_none (by omega : l.length ≤ k + 1 + 1)])
              have HRN : Hid (R = ([], 13)) := Lib.hid (by rw [HP.out, Lx.printTo_none _ hkl (by rw [hs.out]; simp) HNO.out])
              clear hlast
              go_wp2_with fail
              rw [HP0.out]
              refine ⟨?_, HKO.out⟩
              rw [HRN.out]; rfl
            · have e1 : (((k : Nat) : Int) + 1 == (l.length : Int) - 1) = false := by simpa using fun h => hlast (by omega)
              obtain ⟨y, hy⟩ : ∃ y, l[k + 1 + 1]? = some y := ⟨l[k + 1 + 1]'(by omega), by simp⟩
              by_cases q1 : p.kind = 1
              · have q1a : (p.kind != 1) = false := by simp [q1]
                have q1b : (p.kind == 1) = true := by simp [q1]
                have Q1 := Lib.hid q1; clear q1
                obtain ⟨g', o', e', _, hyc⟩ := HCE.out (k + 1 + 1) y hy
                obtain ⟨rfl, rfl⟩ : g = g' ∧ o = o' := by simpa using e'
                have y0 : wr.cell? ⟨g, o + (k + 1 + 1) * 4, none⟩ = some (.int .i64 y.kind) := (hkp.cell (p := ⟨g, _, none⟩) hg (by simp)).trans (hyc 0 _ rfl)
                have y1 : wr.cell? ⟨g, o + (k + 1 + 1) * 4 + 1, none⟩ = some (.string ⟨y.text.toArray⟩) := (hkp.cell (p := ⟨g, _, none⟩) hg (by simp)).trans (hyc 1 _ rfl)
                have y2 : wr.cell? ⟨g, o + (k + 1 + 1) * 4 + 2, none⟩ = some (.int .i64 y.line) := (hkp.cell (p := ⟨g, _, none⟩) hg (by simp)).trans (hyc 2 _ rfl)
                have y3 : wr.cell? ⟨g, o + (k + 1 + 1) * 4 + 3, none⟩ = some (.int .i64 y.col) := (hkp.cell (p := ⟨g, _, none⟩) hg (by simp)).trans (hyc 3 _ rfl)
                have HY := Lib.hid hy; clear hy hyc e'
                have hb3 : decide ((k : Int) + 1 + 1 < l.length) = true := decide_eq_true (by omega)
                go_wp2_with fail
                obtain ⟨V, hW⟩ : ∃ V, V = wr.alloc (.cells #[.int .i64 x.kind, .string ⟨x.text.toArray⟩, .int .i64 x.line, .int .i64 x.col] 34) := ⟨_, rfl⟩
                have hkV : Kp [] wr V := by rw [hW]; exact (Kp.refl [] wr).alloc _
                have hblk : V.heap[wr.heap.size]? = some (.cells #[.int .i64 x.kind, .string ⟨x.text.toArray⟩, .int .i64 x.line, .int .i64 x.col] 34 (0, 0)) := by rw [hW]; exact heap_alloc_new wr _
                rw [← hW]
                clear hW
                have hym := List.mem_of_getElem? HY.out
                obtain ⟨b0, r, hbr⟩ := List.exists_cons_of_ne_nil (Lx.spelled_ne (HRI.out y hym))
                have hSP := spelled_c y V (by obtain ⟨m, hm⟩ := HM.out; exact ⟨m, ((hkp.trans hkV).cell (p := ⟨0, 0, none⟩) (World.block_lt_of_cell? w _ hm) (by simp)).trans hm⟩) (HX.out y hym)
                rw [hbr] at hSP
                have hnx : Lx.nx (Lx.spelled y) 0 = b0 := by rw [hbr]; rfl
                have HNX := Lib.hid hnx; clear hnx hbr hym
                refine hSP.mono ?_
                rintro e W ⟨rfl, hkW⟩
                clear hSP
                have HKW := Lib.hid ((hkp.trans hkV).trans hkW)
                have HBU : Hid (Lib.IsBuilderF 52 5 b b (Lib.byteCells s) W) := Lib.hid (IsBuilderF_keep hbu.out (hkV.trans hkW))
                have hbW : b < W.heap.size := Nat.lt_of_lt_of_le hbl (hkV.trans hkW).size
                have hbl2 := hkW.heap hblk (by simp)
                have d0 : W.cell? ⟨wr.heap.size, 0, none⟩ = some (.int .i64 x.kind) := cell_of_block hbl2 0
                have d1 : W.cell? ⟨wr.heap.size, 1, none⟩ = some (.string ⟨x.text.toArray⟩) := cell_of_block hbl2 1
                have d2 : W.cell? ⟨wr.heap.size, 2, none⟩ = some (.int .i64 x.line) := cell_of_block hbl2 2
                have d3 : W.cell? ⟨wr.heap.size, 3, none⟩ = some (.int .i64 x.col) := cell_of_block hbl2 3
                clear hblk hbl2 hkV hkW hkp
                cases hlo : (Lx.letter b0 || Lx.isop b0)
                · have HNO : Hid (Lx.part l (k + 1) = none) := Lib.hid (by
                    unfold Lx.part; rw [HXK.out]; simp only; rw [if_pos K9.out, HY.out]; simp only; rw [HPP.out]; simp only; rw [HNX.out, if_neg (fun h => by rw [hlo] at h; cases h.2)])
                  have HRN : Hid (R = ([], 13)) := Lib.hid (by rw [HP.out, Lx.printTo_none _ hkl (by rw [hs.out]; simp) HNO.out])
                  rw [Bool.or_eq_false_iff] at hlo
                  obtain ⟨hl1, hl2⟩ := hlo
                  go_wp2_with (first
                    | (go_at_call 30; refine (isLetter_c b0 W).mono ?_; rintro e w' ⟨rfl, rfl⟩)
                    | (go_at_call 31; refine (isOp_c b0 W).mono ?_; rintro e w' ⟨rfl, rfl⟩))
                  rw [HP0.out]
                  refine ⟨?_, HKW.out⟩
                  rw [HRN.out]; rfl
                · have HPT : Hid (Lx.printTo l (k + 1 + 1) = some (s ++ Lx.spelled x)) := by
                    refine Lib.hid ?_
                    have hpart : Lx.part l (k + 1) = some (Lx.spelled x) := by
                      unfold Lx.part; rw [HXK.out]; simp only; rw [if_pos K9.out, HY.out]; simp only; rw [HPP.out]; simp only; rw [HNX.out, if_pos ⟨Q1.out, hlo⟩]
                    rw [Lx.printTo, hs.out]; simp only; rw [hpart]
                  cases hl1 : Lx.letter b0
                  · rw [hl1, Bool.false_or] at hlo
                    go_wp2_with (first
                      | (go_at_call 30; refine (isLetter_c b0 W).mono ?_; rintro e w' ⟨rfl, rfl⟩)
                      | (go_at_call 31; refine (isOp_c b0 W).mono ?_; rintro e w' ⟨rfl, rfl⟩))
                    refine (spelled_c x W (by obtain ⟨m, hm⟩ := HM.out; exact ⟨m, (HKW.out.cell (p := ⟨0, 0, none⟩) (World.block_lt_of_cell? w _ hm) (by simp)).trans hm⟩) (HX.out x (List.mem_of_getElem? HXK.out))).mono ?_
                    rintro e w3 ⟨rfl, hk3⟩
                    have HK3 := Lib.hid hk3; clear hk3
                    have hsp := Lx.spelled_len x
                    have hxl := HX.out x (List.mem_of_getElem? HXK.out)
                    go_wp2_with fail
                    refine (writeString_k b b _ _ w3 (IsBuilderF_keep HBU.out HK3.out) (by rw [Lib.byteCells_length]; simp [ByteArray.size]; omega) (Nat.le_trans (Nat.le_of_lt hbW) HK3.out.size)).mono ?_
                    rintro e w4 ⟨rfl, hb4, hbel, hoth⟩
                    have HB4 := Lib.hid hb4; clear hb4 hoth
                    have HK4 := Lib.hid ((HKW.out.trans HK3.out).below_trans hbel hwb)
                    have hb5 : b < w4.heap.size := Nat.lt_of_lt_of_le hbW (Nat.le_trans HK3.out.size hbel.size)
                    clear hbel hsp hxl
                    go_wp2_with fail
                    go_roundg (l.length - ((k + 1) + 1))
                    case measure => omega
                    case rel =>
                      refine ⟨(k + 1) + 1, s ++ Lx.spelled x, rfl, by simp, by omega, HPT.out, ?_, HK4.out, hb5⟩
                      rw [Lib.byteCells_append]
                      exact HB4.out
                  · clear hlo
                    go_wp2_with (go_at_call 30; refine (isLetter_c b0 W).mono ?_; rintro e w' ⟨rfl, rfl⟩)
                    refine (spelled_c x W (by obtain ⟨m, hm⟩ := HM.out; exact ⟨m, (HKW.out.cell (p := ⟨0, 0, none⟩) (World.block_lt_of_cell? w _ hm) (by simp)).trans hm⟩) (HX.out x (List.mem_of_getElem? HXK.out))).mono ?_
                    rintro e w3 ⟨rfl, hk3⟩
                    have HK3 := Lib.hid hk3; clear hk3
                    have hsp := Lx.spelled_len x
                    have hxl := HX.out x (List.mem_of_getElem? HXK.out)
                    go_wp2_with fail
                    refine (writeString_k b b _ _ w3 (IsBuilderF_keep HBU.out HK3.out) (by rw [Lib.byteCells_length]; simp [ByteArray.size]; omega) (Nat.le_trans (Nat.le_of_lt hbW) HK3.out.size)).mono ?_
                    rintro e w4 ⟨rfl, hb4, hbel, hoth⟩
                    have HB4 := Lib.hid hb4; clear hb4 hoth
                    have HK4 := Lib.hid ((HKW.out.trans HK3.out).below_trans hbel hwb)
                    have hb5 : b < w4.heap.size := Nat.lt_of_lt_of_le hbW (Nat.le_trans HK3.out.size hbel.size)
                    clear hbel hsp hxl
                    go_wp2_with fail
                    go_roundg (l.length - ((k + 1) + 1))
                    case measure => omega
                    case rel =>
                      refine ⟨(k + 1) + 1, s ++ Lx.spelled x, rfl, by simp, by omega, HPT.out, ?_, HK4.out, hb5⟩
                      rw [Lib.byteCells_append]
                      exact HB4.out
              · have q1a : (p.kind != 1) = true := by simpa using q1
                have q1b : (p.kind == 1) = false := by simpa using q1
                have HNO : Hid (Lx.part l (k + 1) = none) := Lib.hid (by
                  unfold Lx.part; rw [HXK.out]; simp only; rw [if_pos K9.out, hy]; simp only; rw [HPP.out]; simp only; rw [if_neg (fun h => q1 h.1)])
                have HRN : Hid (R = ([], 13)) := Lib.hid (by rw [HP.out, Lx.printTo_none _ hkl (by rw [hs.out]; simp) HNO.out])
                clear q1
                go_wp2_with fail
                rw [HP0.out]
                refine ⟨?_, HKO.out⟩
                rw [HRN.out]; rfl
        · have k9a : (x.kind == 9) = false := by simpa using k9
          have K9 := Lib.hid k9; clear k9
          cases k with
          | zero =>
            simp only [Nat.zero_mul, Nat.add_zero] at c0 c1 c2 c3
            rw [show ((0 : Nat) : Int) = 0 from rfl] at hb' ⊢
            have hs0 : s = [] := by have := hs.out; simp [Lx.printTo] at this; exact this
            have HPT : Hid (Lx.printTo l 1 = some (s ++ Lx.spelled x)) := by
              refine Lib.hid ?_
              have hpart : Lx.part l 0 = some (Lx.spelled x) := by unfold Lx.part; rw [HXK.out]; simp only; rw [if_neg K9.out]
              simp [Lx.printTo, hpart, hs0]
            have hSl : s.length ≤ 20000000000 := by rw [hs0]; simp
            clear hs0
            go_wp2_with fail
            obtain ⟨W, hW⟩ : ∃ W, W = wr.alloc (.cells #[.int .i64 x.kind, .string ⟨x.text.toArray⟩, .int .i64 x.line, .int .i64 x.col] 34) := ⟨_, rfl⟩
            have hkW : Kp [] wr W := by rw [hW]; exact (Kp.refl [] wr).alloc _
            have HKW := Lib.hid (hkp.trans hkW)
            have HBU : Hid (Lib.IsBuilderF 52 5 b b (Lib.byteCells s) W) := Lib.hid (IsBuilderF_keep hbu.out hkW)
            have hbW : b < W.heap.size := Nat.lt_of_lt_of_le hbl hkW.size
            rw [← hW]
            clear hW hkW hkp
            refine (spelled_c x W (by obtain ⟨m, hm⟩ := HM.out; exact ⟨m, (HKW.out.cell (p := ⟨0, 0, none⟩) (World.block_lt_of_cell? w _ hm) (by simp)).trans hm⟩) (HX.out x (List.mem_of_getElem? HXK.out))).mono ?_
            rintro e w3 ⟨rfl, hk3⟩
            have HK3 := Lib.hid hk3; clear hk3
            have hsp := Lx.spelled_len x
            have hxl := HX.out x (List.mem_of_getElem? HXK.out)
            go_wp2_with fail
            refine (writeString_k b b _ _ w3 (IsBuilderF_keep HBU.out HK3.out) (by rw [Lib.byteCells_length]; simp [ByteArray.size]; omega) (Nat.le_trans (Nat.le_of_lt hbW) HK3.out.size)).mono ?_
            rintro e w4 ⟨rfl, hb4, hbel, hoth⟩
            have HB4 := Lib.hid hb4; clear hb4 hoth
            have HK4 := Lib.hid ((HKW.out.trans HK3.out).below_trans hbel hwb)
            have hb5 : b < w4.heap.size := Nat.lt_of_lt_of_le hbW (Nat.le_trans HK3.out.size hbel.size)
            clear hbel hsp hxl
            go_wp2_with fail
            go_roundg (l.length - (0 + 1))
            case measure => omega
            case rel =>
              refine ⟨0 + 1, s ++ Lx.spelled x, rfl, by simp, by omega, HPT.out, ?_, HK4.out, hb5⟩
              rw [Lib.byteCells_append]
              exact HB4.out
          | succ k =>
            have hb2 : decide ((k : Int) + 1 < l.length) = true := decide_eq_true (by omega)
            obtain ⟨p, hp⟩ : ∃ p, l[k]? = some p := ⟨l[k], by simp [Nat.lt_of_succ_lt hkl]⟩
            obtain ⟨g', o', e', _, hpc⟩ := HCE.out k p hp
            obtain ⟨rfl, rfl⟩ : g = g' ∧ o = o' := by simpa using e'
            have p0 : wr.cell? ⟨g, o + k * 4, none⟩ = some (.int .i64 p.kind) := (hkp.cell (p := ⟨g, _, none⟩) hg (by simp)).trans (hpc 0 _ rfl)
            have HPP := Lib.hid hp; clear hp hpc e'
            have hSl : s.length ≤ 20000000000 := by have := Lx.printTo_len HX.out _ _ hs.out; omega
            by_cases q9 : p.kind = 9
            · have q9a : (p.kind != 9) = false := by simp [q9]
              have q9b : (p.kind == 9) = true := by simp [q9]
              have Q9 := Lib.hid q9; clear q9
              have HPT : Hid (Lx.printTo l (k + 1 + 1) = some (s ++ Lx.spelled x)) := by
                refine Lib.hid ?_
                have hpart : Lx.part l (k + 1) = some (Lx.spelled x) := by unfold Lx.part; rw [HXK.out]; simp only; rw [if_neg K9.out, HPP.out]; simp only; rw [if_pos Q9.out]; rfl
                rw [Lx.printTo, hs.out]; simp only; rw [hpart]
              go_wp2_with fail
              obtain ⟨W, hW⟩ : ∃ W, W = wr.alloc (.cells #[.int .i64 x.kind, .string ⟨x.text.toArray⟩, .int .i64 x.line, .int .i64 x.col] 34) := ⟨_, rfl⟩
              have hkW : Kp [] wr W := by rw [hW]; exact (Kp.refl [] wr).alloc _
              have HKW := Lib.hid (hkp.trans hkW)
              have HBU : Hid (Lib.IsBuilderF 52 5 b b (Lib.byteCells s) W) := Lib.hid (IsBuilderF_keep hbu.out hkW)
              have hbW : b < W.heap.size := Nat.lt_of_lt_of_le hbl hkW.size
              rw [← hW]
              clear hW hkW hkp
              refine (spelled_c x W (by obtain ⟨m, hm⟩ := HM.out; exact ⟨m, (HKW.out.cell (p := ⟨0, 0, none⟩) (World.block_lt_of_cell? w _ hm) (by simp)).trans hm⟩) (HX.out x (List.mem_of_getElem? HXK.out))).mono ?_
              rintro e w3 ⟨rfl, hk3⟩
              have HK3 := Lib.hid hk3; clear hk3
              have hsp := Lx.spelled_len x
              have hxl := HX.out x (List.mem_of_getElem? HXK.out)
              go_wp2_with fail
              refine (writeString_k b b _ _ w3 (IsBuilderF_keep HBU.out HK3.out) (by rw [Lib.byteCells_length]; simp [ByteArray.size]; omega) (Nat.le_trans (Nat.le_of_lt hbW) HK3.out.size)).mono ?_
              rintro e w4 ⟨rfl, hb4, hbel, hoth⟩
              have HB4 := Lib.hid hb4; clear hb4 hoth
              have HK4 := Lib.hid ((HKW.out.trans HK3.out).below_trans hbel hwb)
              have hb5 : b < w4.heap.size := Nat.lt_of_lt_of_le hbW (Nat.le_trans HK3.out.size hbel.size)
              clear hbel hsp hxl
              go_wp2_with fail
              go_roundg (l.length - ((k + 1) + 1))
              case measure => omega
              case rel =>
                refine ⟨(k + 1) + 1, s ++ Lx.spelled x, rfl, by simp, by omega, HPT.out, ?_, HK4.out, hb5⟩
                rw [Lib.byteCells_append]
                exact HB4.out
            · have q9a : (p.kind != 9) = true := by simpa using q9
              have q9b : (p.kind == 9) = false := by simpa using q9
              have Q9 := Lib.hid q9; clear q9
              have HPT : Hid (Lx.printTo l (k + 1 + 1) = some (s ++ [32] ++ Lx.spelled x)) := by
                refine Lib.hid ?_
                have hpart : Lx.part l (k + 1) = some ([32] ++ Lx.spelled x) := by unfold Lx.part; rw [HXK.out]; simp only; rw [if_neg K9.out, HPP.out]; simp only; rw [if_neg Q9.out]
                rw [Lx.printTo, hs.out]; simp only; rw [hpart]; simp only; rw [List.append_assoc]
              go_wp2_with fail
              obtain ⟨V, hW⟩ : ∃ V, V = wr.alloc (.cells #[.int .i64 x.kind, .string ⟨x.text.toArray⟩, .int .i64 x.line, .int .i64 x.col] 34) := ⟨_, rfl⟩
              have hkW : Kp [] wr V := by rw [hW]; exact (Kp.refl [] wr).alloc _
              have HKV := Lib.hid (hkp.trans hkW)
              have HBV : Hid (Lib.IsBuilderF 52 5 b b (Lib.byteCells s) V) := Lib.hid (IsBuilderF_keep hbu.out hkW)
              have hbV : b < V.heap.size := Nat.lt_of_lt_of_le hbl hkW.size
              have hblk : V.heap[wr.heap.size]? = some (.cells #[.int .i64 x.kind, .string ⟨x.text.toArray⟩, .int .i64 x.line, .int .i64 x.col] 34 (0, 0)) := by rw [hW]; exact heap_alloc_new wr _
              rw [← hW]
              clear hW hkW hkp
              refine (writeByte_k b b _ 32 V HBV.out (by rw [Lib.byteCells_length]; omega) (Nat.le_of_lt hbV)).mono ?_
              rintro e W ⟨rfl, hbb, hbel, hoth⟩
              have HBU : Hid (Lib.IsBuilderF 52 5 b b (Lib.byteCells (s ++ [32])) W) := Lib.hid (by rw [Lib.byteCells_append]; exact hbb)
              have HKW := Lib.hid (HKV.out.below_trans hbel hwb)
              have hbW : b < W.heap.size := Nat.lt_of_lt_of_le hbV hbel.size
              have hbl2 := hoth _ _ hblk (by simp; omega) (by intro c fz e; cases e)
              have d0 : W.cell? ⟨wr.heap.size, 0, none⟩ = some (.int .i64 x.kind) := cell_of_block hbl2 0
              have d1 : W.cell? ⟨wr.heap.size, 1, none⟩ = some (.string ⟨x.text.toArray⟩) := cell_of_block hbl2 1
              have d2 : W.cell? ⟨wr.heap.size, 2, none⟩ = some (.int .i64 x.line) := cell_of_block hbl2 2
              have d3 : W.cell? ⟨wr.heap.size, 3, none⟩ = some (.int .i64 x.col) := cell_of_block hbl2 3
              have hSl : (s ++ [32]).length ≤ 20000000000 := by have := Lx.printTo_len HX.out _ _ hs.out; simp; omega
              clear hbb hbel hoth hbl2 hblk
              go_wp2_with fail
              refine (spelled_c x W (by obtain ⟨m, hm⟩ := HM.out; exact ⟨m, (HKW.out.cell (p := ⟨0, 0, none⟩) (World.block_lt_of_cell? w _ hm) (by simp)).trans hm⟩) (HX.out x (List.mem_of_getElem? HXK.out))).mono ?_
              rintro e w3 ⟨rfl, hk3⟩
              have HK3 := Lib.hid hk3; clear hk3
              have hsp := Lx.spelled_len x
              have hxl := HX.out x (List.mem_of_getElem? HXK.out)
              go_wp2_with fail
              refine (writeString_k b b _ _ w3 (IsBuilderF_keep HBU.out HK3.out) (by rw [Lib.byteCells_length]; simp [ByteArray.size]; omega) (Nat.le_trans (Nat.le_of_lt hbW) HK3.out.size)).mono ?_
              rintro e w4 ⟨rfl, hb4, hbel, hoth⟩
              have HB4 := Lib.hid hb4; clear hb4 hoth
              have HK4 := Lib.hid ((HKW.out.trans HK3.out).below_trans hbel hwb)
              have hb5 : b < w4.heap.size := Nat.lt_of_lt_of_le hbW (Nat.le_trans HK3.out.size hbel.size)
              clear hbel hsp hxl
              go_wp2_with fail
              go_roundg (l.length - ((k + 1) + 1))
              case measure => omega
              case rel =>
                refine ⟨(k + 1) + 1, (s ++ [32]) ++ Lx.spelled x, rfl, by simp, by omega, HPT.out, ?_, HK4.out, hb5⟩
                rw [Lib.byteCells_append]
                exact HB4.out
      · obtain rfl : k = l.length := by omega
        have hb' : decide ((l.length : Int) < l.length) = false := by simp
        have HKP := Lib.hid hkp; clear hkp
        have hp := HP.out
        rw [hs.out] at hp
        simp only at hp
        have HP2 := Lib.hid hp; clear hp
        have hbs : b ≤ wr.heap.size := by omega
        go_wp2_with fail
        refine (Tryz.Builder_Len_f b b _ wr hbu.out).mono ?_
        rintro e w3 ⟨rfl, rfl⟩
        rw [Lib.byteCells_length]
        by_cases h2 : 20000 < s.length
        · have h2a : decide ((20000 : Int) < s.length) = true := decide_eq_true (by omega)
          rw [if_pos h2] at HP2
          go_wp2_with fail
          rw [HP0.out]
          exact ⟨by rw [HP2.out]; rfl, HKP.out⟩
        · have h2a : decide ((20000 : Int) < s.length) = false := decide_eq_false (by omega)
          rw [if_neg h2] at HP2
          go_wp2_with fail
          refine (Tryz.Builder_String_any_f b b s _ hbu.out hbs).mono ?_
          rintro e w3 ⟨rfl, _, hbel⟩
          have HK3 := Lib.hid (HKP.out.below_trans hbel hwb); clear hbel
          go_wp2_with fail
          rw [HP0.out]
          exact ⟨by rw [HP2.out]; rfl, HK3.out⟩
  · have c1 : (ck != 0) = true := by simpa using hc
    have c2 : (ck == 0) = false := by simpa using hc
    rw [if_pos hc] at hp
    have HP := Lib.hid hp; clear hp
    clear hc hcr
    go_wp2_with fail
    refine HCK.out.mono ?_
    rintro e w1 ⟨rfl, hk1⟩
    have HK1 := Lib.hid hk1; clear hk1
    go_wp2_with fail
    rw [HP0.out]
    exact ⟨by rw [HP.out]; rfl, HK1.out⟩

end Go.Proofs.YtogmealngeejmaaGreatDoor
