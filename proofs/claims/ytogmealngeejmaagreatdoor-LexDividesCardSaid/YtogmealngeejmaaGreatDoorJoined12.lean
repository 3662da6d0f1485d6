import Derived.Test.YtogmealngeejmaaGreatDoorJoined11
import Derived.OwnWalk
import Derived.Maps.AppendAt
/- Slices that are read; 'mapped'; 'Lex'; 'Ends'. -/
namespace Go.Proofs.YtogmealngeejmaaGreatDoor
open Go Go.RowKit

/-- The value is a slice of l, element by element in 'enc'. -/
def Rd {α : Type} (W : World) (v : Value) (size : Nat) (enc : α → List Value) (l : List α) : Prop :=
  (∀ x, (enc x).length = size) ∧ (((∃ b cap, v = .slice b 0 cap) ∧ l = []) ∨
    ∃ g off cap cur e z, v = .slice (some ⟨g, off, none⟩) l.length cap ∧ W.heap[g]? = some (.cells cur e z) ∧ (cur.toList.drop off).take (l.length * size) = l.flatMap enc)

theorem flatMap_get {α : Type} {enc : α → List Value} {size : Nat} (hs : ∀ x, (enc x).length = size) : ∀ (l : List α) (i j : Nat) (x : α) (u : Value), l[i]? = some x → (enc x)[j]? = some u → (l.flatMap enc)[i * size + j]? = some u := by
  intro l
  induction l with
  | nil => intro i j x u h; simp at h
  | cons y l ih =>
    intro i j x u hx hu
    have hj : j < size := by rw [← hs x]; exact (List.getElem?_eq_some_iff.1 hu).1
    cases i with
    | zero =>
      simp at hx; subst hx
      rw [List.flatMap_cons, List.getElem?_append_left (by rw [hs]; omega)]
      simpa using hu
    | succ i =>
      rw [List.flatMap_cons, List.getElem?_append_right (by rw [hs]; rw [Nat.succ_mul]; omega), hs]
      rw [show (i + 1) * size + j - size = i * size + j by rw [Nat.succ_mul]; omega]
      exact ih i j x u (by simpa using hx) hu

/-- Where its cells lie. -/
theorem Rd.cells {α : Type} {W : World} {v : Value} {size : Nat} {enc : α → List Value} {l : List α} (h : Rd W v size enc l) (hl : l ≠ []) :
    ∃ g off cap, v = .slice (some ⟨g, off, none⟩) l.length cap ∧ g < W.heap.size ∧ ∀ i x j u, l[i]? = some x → (enc x)[j]? = some u → W.cell? ⟨g, off + (i * size + j), none⟩ = some u := by
  obtain ⟨hs, ⟨_, h⟩ | ⟨g, off, cap, cur, e, z, hv, hg, hc⟩⟩ := h
  · exact absurd h hl
  · refine ⟨g, off, cap, hv, (Array.getElem?_eq_some_iff.1 hg).1, fun i x j u hx hu => ?_⟩
    have h1 := flatMap_get hs l i j x u hx hu
    rw [← hc] at h1
    have hlt := (List.getElem?_eq_some_iff.1 h1).1
    rw [List.length_take] at hlt
    rw [List.getElem?_take_of_lt (by omega), List.getElem?_drop] at h1
    simp only [World.cell?, hg]
    simpa using h1

theorem Rd.keep {α : Type} {W W' : World} {v : Value} {size : Nat} {enc : α → List Value} {l : List α} (h : Rd W v size enc l) (k : Kp [] W W') : Rd W' v size enc l := by
  obtain ⟨hs, h | ⟨g, off, cap, cur, e, z, hv, hg, hc⟩⟩ := h
  · exact ⟨hs, .inl h⟩
  · exact ⟨hs, .inr ⟨g, off, cap, cur, e, z, hv, k.heap hg (by simp), hc⟩⟩

theorem Rd.of_own {α : Type} {W : World} {base : Nat} {e : TypeId} {v : Value} {size : Nat} {enc : α → List Value} {l : List α} (hs : ∀ x, (enc x).length = size) (h : W.ownsRow base e size v l.length (l.flatMap enc)) : Rd W v size enc l := by
  refine ⟨hs, ?_⟩
  rcases h.2 with ⟨hv, hl⟩ | ⟨g, cap, cur, hv, _, hg, _, _, _, hc⟩
  · exact .inl ⟨⟨none, 0, hv⟩, List.length_eq_zero_iff.1 hl⟩
  · exact .inr ⟨g, 0, cap, cur, e, _, hv, hg, by simpa using hc⟩

/-- A token of the language: kind, text, line, column. -/
structure Tok where
  kind : Int
  text : Lx.Bs
  line : Int
  col : Int

def cellsTk (x : Tok) : List Value := [.int .i64 x.kind, .string ⟨x.text.toArray⟩, .int .i64 x.line, .int .i64 x.col]
def tkOf (x : Lx.Pc) : Tok := ⟨x.kind, x.text, x.line, x.col⟩

theorem cellsPc_length (x : Lx.Pc) : (cellsPc x).length = 6 := rfl
theorem cellsTk_length (x : Tok) : (cellsTk x).length = 4 := rfl

set_option maxRecDepth 100000 in
set_option maxHeartbeats 1000000 in
theorem lex1_c (x : Lx.Pc) (w : World) : Calls Tryz.prog 48 #[encPc x] w fun e w' => e = .returned (.agg #[.int .i64 x.kind, .string ⟨x.text.toArray⟩, .int .i64 x.line, .int .i64 x.col]) ∧ Kp [] w w' := by
  unfold encPc
  go_enter Tryz.func48, Tryz.ntmps48
  go_wp2
  refine bodyPost_ret (v := .agg #[.int .i64 x.kind, .string ⟨x.text.toArray⟩, .int .i64 x.line, .int .i64 x.col]) (by simp [results, Tryz.results48, go_sem]) rfl ?_
  exact ⟨rfl, ((Kp.refl [] w).alloc _).alloc _⟩

theorem info_token : (Tryz.prog.info? 34).map (fun i => (i.zero, i.size, i.bytes)) = some (some (.agg #[.int .i64 0, .string .empty, .int .i64 0, .int .i64 0]), 4, 40) := by kernel_rfl

set_option maxRecDepth 100000 in
set_option maxHeartbeats 2000000 in
theorem mappedT_c (l : List Lx.Pc) (v : Value) (w : World) (hr : Rd w v 6 cellsPc l) (hl : l.length ≤ 6000) :
    Calls Tryz.prog 47 #[v, .func (.func 48) #[] #[]] w fun e w' => ∃ v', e = .returned v' ∧ Kp [] w w' ∧ w'.ownsRow w.heap.size 34 4 v' l.length ((l.map tkOf).flatMap cellsTk) := by
  obtain ⟨P0, hP0⟩ : ∃ P0 : Ending → World → Prop, P0 = fun e w' => ∃ v', e = .returned v' ∧ Kp [] w w' ∧ w'.ownsRow w.heap.size 34 4 v' l.length ((l.map tkOf).flatMap cellsTk) := ⟨_, rfl⟩
  rw [← hP0]
  have HP0 := Lib.hid hP0; clear hP0
  cases hle : decide (l = [])
  · have hne : l ≠ [] := by simpa using hle
    obtain ⟨g, off, cap, rfl, hglt, hcell⟩ := hr.cells hne
    have HC := Lib.hid hcell; clear hcell
    go_enter Tryz.func47, Tryz.ntmps47
    go_wp2_with fail
    go_loopg [5, 10] l.length (fun n x y wr => ∃ k : Nat, n = l.length - k ∧ y = .int .i64 k ∧ k ≤ l.length ∧ Kp [] w wr ∧ wr.ownsRow w.heap.size 34 4 x k (((l.take k).map tkOf).flatMap cellsTk))
    case atStart => exact ⟨0, rfl, rfl, by omega, Kp.refl _ _, World.ownsRow_nil _ _ _ _⟩
    case round =>
      obtain ⟨k, rfl, rfl, hk, hkp, hrow⟩ := hrel
      by_cases hkl : k = l.length
      · subst hkl
        have hb : decide ((l.length : Int) < l.length) = false := by simp
        have HR := Lib.hid hrow; clear hrow
        go_wp2_with fail
        rw [HP0.out]
        exact ⟨_, rfl, hkp, by have := HR.out; rwa [List.take_length] at this⟩
      · have hkl' : k < l.length := by omega
        have hb : decide ((k : Int) < l.length) = true := by simpa using hkl'
        obtain ⟨x, hx⟩ : ∃ x, l[k]? = some x := ⟨l[k], by simp [hkl']⟩
        have c0 : wr.cell? ⟨g, off + k * 6, none⟩ = some (.int .i64 x.kind) := (hkp.cell (p := ⟨g, _, none⟩) hglt (by simp)).trans (HC.out k x 0 _ hx rfl)
        have c1 : wr.cell? ⟨g, off + k * 6 + 1, none⟩ = some (.string ⟨x.text.toArray⟩) := (hkp.cell (p := ⟨g, _, none⟩) hglt (by simp)).trans (HC.out k x 1 _ hx rfl)
        have c2 : wr.cell? ⟨g, off + k * 6 + 2, none⟩ = some (.int .i64 x.line) := (hkp.cell (p := ⟨g, _, none⟩) hglt (by simp)).trans (HC.out k x 2 _ hx rfl)
        have c3 : wr.cell? ⟨g, off + k * 6 + 3, none⟩ = some (.int .i64 x.col) := (hkp.cell (p := ⟨g, _, none⟩) hglt (by simp)).trans (HC.out k x 3 _ hx rfl)
        have c4 : wr.cell? ⟨g, off + k * 6 + 4, none⟩ = some (.int .i64 x.frm) := (hkp.cell (p := ⟨g, _, none⟩) hglt (by simp)).trans (HC.out k x 4 _ hx rfl)
        have c5 : wr.cell? ⟨g, off + k * 6 + 5, none⟩ = some (.int .i64 x.to) := (hkp.cell (p := ⟨g, _, none⟩) hglt (by simp)).trans (HC.out k x 5 _ hx rfl)
        go_wp2_with fail
        refine (lex1_c x _).mono ?_
        rintro e w2 ⟨rfl, hk2⟩
        have hkp2 : Kp [] w w2 := (hkp.alloc _).trans hk2
        have hrow2 : w2.ownsRow w.heap.size 34 4 u5 k (((l.take k).map tkOf).flatMap cellsTk) := ownsRow_block (hrow.alloc _) fun g hg hl => hk2.block g hl (by simp)
        have HK2 := Lib.hid hkp2; clear hkp2
        have hsz2 := Lib.hid hk2.size; clear hk2 hrow
        obtain ⟨i0, hi, hz0, hz1, hz2⟩ := info_parts info_token
        have hnew : ∀ j u, (cellsTk (tkOf x))[j]? = some u → (w2.alloc (.cells #[.int .i64 x.kind, .string ⟨x.text.toArray⟩, .int .i64 x.line, .int .i64 x.col] 34)).cell? ((⟨w2.heap.size, 0, none⟩ : Addr).add j) = some u := by
          intro j u hj
          have := cell_of_block (heap_alloc_new w2 (.cells #[.int .i64 x.kind, .string ⟨x.text.toArray⟩, .int .i64 x.line, .int .i64 x.col] 34)) j
          have ea : ((⟨w2.heap.size, 0, none⟩ : Addr).add j) = ⟨w2.heap.size, j, none⟩ := by
            unfold Addr.add; simp only [Nat.zero_add]; split
            · rename_i h; rw [h]
            · rfl
          rw [ea, this, ← hj]
          simp [cellsTk, tkOf]
        go_wp2_with (at_builtin; refine wpList_append_own _ rfl _ _ 22 rfl w.heap.size 34 i0 _ 4 40 Tryz.underlying22 hi hz0 hz1 hz2 rfl (by decide) _ _ _ rfl (hrow2.alloc _) ⟨w2.heap.size, 0, none⟩ 1 1 (cellsTk (tkOf x)) rfl rfl hnew (by simp [cellsTk, Value.oneCell']) (by simp [maxLen]; omega) (by omega) (by have := HK2.out.size; simp; omega) ?_; intro v' w3 hown' hgrow _)
        go_roundg (l.length - (k + 1))
        case measure => omega
        case rel =>
          refine ⟨k + 1, rfl, by simp, by omega, (HK2.out.alloc _).grown hgrow (fun j hj => .inr ?_), ?_⟩
          · rcases hrow2.2 with ⟨rfl, _⟩ | ⟨g', cap', cur', rfl, hb', _⟩
            · simp [go_sem, Value.ownBlock] at hj
            · simp [go_sem, Value.ownBlock] at hj; omega
          · have e1 : l.take (k + 1) = l.take k ++ [x] := by simp [List.take_add_one, hx]
            rw [e1]; simpa using hown'
  · have hne : l = [] := by simpa using hle
    subst hne
    obtain ⟨_, ⟨⟨bE, cE, rfl⟩, _⟩ | ⟨g, off, cap, cur, e, z, rfl, _, _⟩⟩ := hr
    all_goals
      go_enter Tryz.func47, Tryz.ntmps47
      go_wp2_with fail
      go_loopg [5, 10] 0 (fun n x y wr => x = .slice none 0 0 ∧ y = .int .i64 0 ∧ wr = w)
      case atStart => exact ⟨rfl, rfl, rfl⟩
      case round =>
        obtain ⟨rfl, rfl, rfl⟩ := hrel
        go_wp2_with fail
        rw [HP0.out]
        exact ⟨_, rfl, Kp.refl _ _, World.ownsRow_nil _ _ _ _⟩

def cellsI (x : Nat) : List Value := [.int .i64 x]

set_option maxRecDepth 100000 in
set_option maxHeartbeats 1000000 in
theorem ends1_c (x : Lx.Pc) (w : World) : Calls Tryz.prog 51 #[encPc x] w fun e w' => e = .returned (.int .i64 x.to) ∧ Kp [] w w' := by
  unfold encPc
  go_enter Tryz.func51, Tryz.ntmps51
  go_wp2
  go_ret
  exact ⟨rfl, (Kp.refl [] w).alloc _⟩

theorem info_int : (Tryz.prog.info? 3).map (fun i => (i.zero, i.size, i.bytes)) = some (some (.int .i64 0), 1, 8) := by kernel_rfl

set_option maxRecDepth 100000 in
set_option maxHeartbeats 2000000 in
theorem mappedI_c (l : List Lx.Pc) (v : Value) (w : World) (hr : Rd w v 6 cellsPc l) (hl : l.length ≤ 6000) :
    Calls Tryz.prog 50 #[v, .func (.func 51) #[] #[]] w fun e w' => ∃ v', e = .returned v' ∧ Kp [] w w' ∧ w'.ownsRow w.heap.size 3 1 v' l.length ((l.map (·.to)).flatMap cellsI) := by
  obtain ⟨P0, hP0⟩ : ∃ P0 : Ending → World → Prop, P0 = fun e w' => ∃ v', e = .returned v' ∧ Kp [] w w' ∧ w'.ownsRow w.heap.size 3 1 v' l.length ((l.map (·.to)).flatMap cellsI) := ⟨_, rfl⟩
  rw [← hP0]
  have HP0 := Lib.hid hP0; clear hP0
  cases hle : decide (l = [])
  · have hne : l ≠ [] := by simpa using hle
    obtain ⟨g, off, cap, rfl, hglt, hcell⟩ := hr.cells hne
    have HC := Lib.hid hcell; clear hcell
    go_enter Tryz.func50, Tryz.ntmps50
    go_wp2_with fail
    go_loopg [5, 10] l.length (fun n x y wr => ∃ k : Nat, n = l.length - k ∧ y = .int .i64 k ∧ k ≤ l.length ∧ Kp [] w wr ∧ wr.ownsRow w.heap.size 3 1 x k (((l.take k).map (·.to)).flatMap cellsI))
    case atStart => exact ⟨0, rfl, rfl, by omega, Kp.refl _ _, World.ownsRow_nil _ _ _ _⟩
    case round =>
      obtain ⟨k, rfl, rfl, hk, hkp, hrow⟩ := hrel
      by_cases hkl : k = l.length
      · subst hkl
        have hb : decide ((l.length : Int) < l.length) = false := by simp
        have HR := Lib.hid hrow; clear hrow
        go_wp2_with fail
        rw [HP0.out]
        exact ⟨_, rfl, hkp, by have := HR.out; rwa [List.take_length] at this⟩
      · have hkl' : k < l.length := by omega
        have hb : decide ((k : Int) < l.length) = true := by simpa using hkl'
        obtain ⟨x, hx⟩ : ∃ x, l[k]? = some x := ⟨l[k], by simp [hkl']⟩
        have c0 : wr.cell? ⟨g, off + k * 6, none⟩ = some (.int .i64 x.kind) := (hkp.cell (p := ⟨g, _, none⟩) hglt (by simp)).trans (HC.out k x 0 _ hx rfl)
        have c1 : wr.cell? ⟨g, off + k * 6 + 1, none⟩ = some (.string ⟨x.text.toArray⟩) := (hkp.cell (p := ⟨g, _, none⟩) hglt (by simp)).trans (HC.out k x 1 _ hx rfl)
        have c2 : wr.cell? ⟨g, off + k * 6 + 2, none⟩ = some (.int .i64 x.line) := (hkp.cell (p := ⟨g, _, none⟩) hglt (by simp)).trans (HC.out k x 2 _ hx rfl)
        have c3 : wr.cell? ⟨g, off + k * 6 + 3, none⟩ = some (.int .i64 x.col) := (hkp.cell (p := ⟨g, _, none⟩) hglt (by simp)).trans (HC.out k x 3 _ hx rfl)
        have c4 : wr.cell? ⟨g, off + k * 6 + 4, none⟩ = some (.int .i64 x.frm) := (hkp.cell (p := ⟨g, _, none⟩) hglt (by simp)).trans (HC.out k x 4 _ hx rfl)
        have c5 : wr.cell? ⟨g, off + k * 6 + 5, none⟩ = some (.int .i64 x.to) := (hkp.cell (p := ⟨g, _, none⟩) hglt (by simp)).trans (HC.out k x 5 _ hx rfl)
        go_wp2_with fail
        refine (ends1_c x _).mono ?_
        rintro e w2 ⟨rfl, hk2⟩
        have hkp2 : Kp [] w w2 := (hkp.alloc _).trans hk2
        have hrow2 : w2.ownsRow w.heap.size 3 1 u5 k (((l.take k).map (·.to)).flatMap cellsI) := ownsRow_block (hrow.alloc _) fun g hg hl => hk2.block g hl (by simp)
        have HK2 := Lib.hid hkp2; clear hkp2
        have hsz2 := Lib.hid hk2.size; clear hk2 hrow
        obtain ⟨i0, hi, hz0, hz1, hz2⟩ := info_parts info_int
        go_wp2_with (at_builtin; refine wpList_append_own _ rfl _ _ 38 rfl w.heap.size 3 i0 _ 1 8 Tryz.underlying38 hi hz0 hz1 hz2 rfl (by decide) _ _ _ rfl (hrow2.alloc _) ⟨w2.heap.size, 0, none⟩ 1 1 (cellsI x.to) rfl rfl (cell_one_new _ _ _) (by simp [cellsI, Value.oneCell']) (by simp [maxLen]; omega) (by omega) (by have := HK2.out.size; simp; omega) ?_; intro v' w3 hown' hgrow _)
        go_roundg (l.length - (k + 1))
        case measure => omega
        case rel =>
          refine ⟨k + 1, rfl, by simp, by omega, (HK2.out.alloc _).grown hgrow (fun j hj => .inr ?_), ?_⟩
          · rcases hrow2.2 with ⟨rfl, _⟩ | ⟨g', cap', cur', rfl, hb', _⟩
            · simp [go_sem, Value.ownBlock] at hj
            · simp [go_sem, Value.ownBlock] at hj; omega
          · have e1 : l.take (k + 1) = l.take k ++ [x] := by simp [List.take_add_one, hx]
            rw [e1]; simpa using hown'
  · have hne : l = [] := by simpa using hle
    subst hne
    obtain ⟨_, ⟨⟨bE, cE, rfl⟩, _⟩ | ⟨g, off, cap, cur, e, z, rfl, _, _⟩⟩ := hr
    all_goals
      go_enter Tryz.func50, Tryz.ntmps50
      go_wp2_with fail
      go_loopg [5, 10] 0 (fun n x y wr => x = .slice none 0 0 ∧ y = .int .i64 0 ∧ wr = w)
      case atStart => exact ⟨rfl, rfl, rfl⟩
      case round =>
        obtain ⟨rfl, rfl, rfl⟩ := hrel
        go_wp2_with fail
        rw [HP0.out]
        exact ⟨_, rfl, Kp.refl _ _, World.ownsRow_nil _ _ _ _⟩

end Go.Proofs.YtogmealngeejmaaGreatDoor
