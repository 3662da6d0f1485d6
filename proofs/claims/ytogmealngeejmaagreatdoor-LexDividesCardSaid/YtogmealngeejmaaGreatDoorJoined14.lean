import Derived.Test.YtogmealngeejmaaGreatDoorJoined12
import Derived.Test.YtogmealngeejmaaGreatDoorJoined13
import Derived.Deep.Slices
import Derived.SizedLaws
/- Lists of tokens that come in: read as a list of tokens. -/
namespace Go.Proofs.YtogmealngeejmaaGreatDoor
open Go Go.ChangeShapes Go.WideShapes Go.ChangeAt Go.ChangeMaps Go.RowKit

/-- A slice whose cells are known, element by element. -/
theorem Rd.of_cells {α : Type} {W : World} {g off cap size : Nat} {enc : α → List Value} {l : List α} (hs : ∀ x, (enc x).length = size) (h0 : 0 < size) (hl : l ≠ [])
    (h : ∀ i x j u, l[i]? = some x → (enc x)[j]? = some u → W.cell? ⟨g, off + (i * size + j), none⟩ = some u) : Rd W (.slice (some ⟨g, off, none⟩) l.length cap) size enc l := by
  have hfl : ∀ q : List α, (q.flatMap enc).length = q.length * size := by
    intro q
    induction q with
    | nil => simp
    | cons x q ih => rw [List.flatMap_cons, List.length_append, ih, hs, List.length_cons, Nat.succ_mul]; omega
  have hget : ∀ i, i < l.length * size → ∃ u, (l.flatMap enc)[i]? = some u ∧ W.cell? ⟨g, off + i, none⟩ = some u := by
    intro i hi
    have hq : i / size < l.length := Nat.div_lt_of_lt_mul (by rw [Nat.mul_comm]; exact hi)
    have hr := Nat.mod_lt i h0
    have hd : i / size * size + i % size = i := by rw [Nat.mul_comm]; exact Nat.div_add_mod i size
    have hx : l[i / size]? = some (l[i / size]'hq) := List.getElem?_eq_getElem hq
    have hu : (enc (l[i / size]'hq))[i % size]? = some ((enc (l[i / size]'hq))[i % size]'(by rw [hs]; exact hr)) := List.getElem?_eq_getElem _
    refine ⟨_, ?_, by have := h _ _ _ _ hx hu; rwa [hd] at this⟩
    have := flatMap_get hs l _ _ _ _ hx hu
    rwa [hd] at this
  have hlen : 0 < l.length := List.length_pos_iff.2 hl
  obtain ⟨u0, _, hc0⟩ := hget 0 (Nat.mul_pos hlen h0)
  unfold World.cell? at hc0
  split at hc0
  · rename_i cur e z hg
    refine ⟨hs, .inr ⟨g, off, cap, cur, e, z, rfl, hg, ?_⟩⟩
    apply List.ext_getElem?
    intro i
    by_cases hi : i < l.length * size
    · obtain ⟨u, hu, hc⟩ := hget i hi
      rw [hu, List.getElem?_take_of_lt hi, List.getElem?_drop]
      simpa [World.cell?, hg] using hc
    · rw [List.getElem?_eq_none (by rw [List.length_take]; omega), List.getElem?_eq_none (by rw [hfl]; omega)]
  · cases hc0

section
variable {H : Type} {enc : TypeId × Value → H} {W W' : World}

/-- All arguments read as they did where what lies is kept. -/
theorem trodAll_stays (hb : Below W.heap.size W W') {sp : Nat → Bool} : ∀ {ts : List TypeId} {vs : List Value} {ds : List (DataW H)} {ps : List MemPlace}, (∀ t ∈ ts, Tryz.prog.readableRec t = true ∧ t < Tryz.prog.types.size) →
    DataW.TrodAll enc Tryz.prog W 0 (fun _ => true) true ts vs ds ps → (∀ p ∈ ps, p.block < W.heap.size) → (∀ p ∈ ps, sp p.block = true) → DataW.TrodAll enc Tryz.prog W' 0 sp true ts vs ds ps := by
  intro ts
  induction ts with
  | nil =>
    intro vs ds ps _ h _ _
    obtain ⟨rfl, rfl, rfl⟩ := trodAll_nil h
    exact rfl
  | cons t ts ih =>
    intro vs ds ps ht h hlt hsp
    obtain ⟨v, vs', d, ds', p, q, rfl, rfl, rfl, h0, hr⟩ := trodAll_cons h
    have h1 := ht t (by simp)
    exact ⟨p, q, WideElems.Trod_stays (by kernel_rfl) h1.1 h1.2 h0 (fun x hx => hb.same (hlt x (by simp [hx]))) (fun x hx => hsp x (by simp [hx])),
      ih (fun t' h' => ht t' (by simp [h'])) hr (fun x hx => hlt x (by simp [hx])) (fun x hx => hsp x (by simp [hx])), rfl⟩

/-- A token as a datum. -/
def tokD (x : Tok) : DataW H := .agg [.lit (.int .i64 x.kind), .lit (.string x.text), .lit (.int .i64 x.line), .lit (.int .i64 x.col)]

set_option maxRecDepth 100000 in
theorem tok_elem {sp : Nat → Bool} {held : Bool} {n : Nat} {a : Addr} {y : DataW H × List MemPlace} (h : (W.cells? 0 a (Tryz.prog.cellsOf 34)).bind (DataW.trod enc Tryz.prog W 0 sp held n 34) = some y) :
    ∃ x : Tok, (∀ j u, (cellsTk x)[j]? = some u → W.cell? (a.add j) = some u) ∧ y.1 = tokD x := by
  obtain ⟨cs, hc, ht⟩ := Option.bind_eq_some_iff.1 h
  obtain ⟨xs, m, _, hy, hlen, hxl, hf⟩ := DataW.trod_struct Tryz.underlying34 ht
  obtain ⟨_, hcl, hat⟩ := World.cells?_some hc
  have c4 : Tryz.prog.cellsOf 34 = 4 := by kernel_rfl
  have c1 : Tryz.prog.cellsOf 3 = 1 := by kernel_rfl
  have c2 : Tryz.prog.cellsOf 9 = 1 := by kernel_rfl
  rw [c4] at hcl
  rw [c4] at hat
  match cs, hcl with
  | [k0, k1, k2, k3], _ =>
    have f0 : DataW.trod enc Tryz.prog W 0 sp held m 3 (([k0, k1, k2, k3].drop 0).take (Tryz.prog.cellsOf 3)) = xs[0]? := hf 0 _ rfl
    have f1 : DataW.trod enc Tryz.prog W 0 sp held m 9 (([k0, k1, k2, k3].drop 1).take (Tryz.prog.cellsOf 9)) = xs[1]? := hf 1 _ rfl
    have f2 : DataW.trod enc Tryz.prog W 0 sp held m 3 (([k0, k1, k2, k3].drop 2).take (Tryz.prog.cellsOf 3)) = xs[2]? := hf 2 _ rfl
    have f3 : DataW.trod enc Tryz.prog W 0 sp held m 3 (([k0, k1, k2, k3].drop 3).take (Tryz.prog.cellsOf 3)) = xs[3]? := hf 3 _ rfl
    rw [c1] at f0 f2 f3
    rw [c2] at f1
    match xs, hxl with
    | [y0, y1, y2, y3], _ =>
      obtain ⟨n0, e0, g0, _⟩ := DataW.trod_int Tryz.underlying3 (show DataW.trod enc Tryz.prog W 0 sp held m 3 [k0] = some y0 from f0)
      obtain ⟨s1, e1, g1, _⟩ := DataW.trod_string Tryz.underlying9 (show DataW.trod enc Tryz.prog W 0 sp held m 9 [k1] = some y1 from f1)
      obtain ⟨n2, e2, g2, _⟩ := DataW.trod_int Tryz.underlying3 (show DataW.trod enc Tryz.prog W 0 sp held m 3 [k2] = some y2 from f2)
      obtain ⟨n3, e3, g3, _⟩ := DataW.trod_int Tryz.underlying3 (show DataW.trod enc Tryz.prog W 0 sp held m 3 [k3] = some y3 from f3)
      simp only [List.cons.injEq, and_true] at e0 e1 e2 e3
      subst e0; subst e1; subst e2; subst e3
      refine ⟨⟨n0, s1.data.toList, n2, n3⟩, ?_, by rw [hy, g0, g1, g2, g3]; rfl⟩
      intro j u hj
      have hj4 : j < 4 := (List.getElem?_eq_some_iff.1 hj).1
      rw [hat j hj4]
      rw [← hj]
      have es : (⟨s1.data.toList.toArray⟩ : ByteArray) = s1 := by cases s1; simp
      simp only [cellsTk, es]

set_option maxRecDepth 100000 in
theorem open_toks {v : Value} {d : DataW H} {p : List MemPlace} {base : Nat} (hv : Value.okWide Tryz.prog W .any base 22 v) (h : DataW.Trod enc Tryz.prog W 0 (fun _ => true) true 22 v d p)
    (hz : ∀ n ∈ d.weights Tryz.prog 22, n ≤ reachBytes) : ∃ l : List Tok, Rd W v 4 cellsTk l ∧ ∀ x ∈ l, x.text.length ≤ 140737488355328 := by
  obtain ⟨a0, len0, cap0, rfl⟩ := okWide_slice Tryz.underlying22 hv
  obtain ⟨fuel, hf⟩ := h
  rcases DataW.trod_slice Tryz.underlying22 hf with ⟨hcs, hxd⟩ | ⟨a, len, cap, elems, rest, n, _, hcs, hxd, _, hl, hm, hlen, hel, hsp, _⟩
  · simp [Value.cells] at hcs
    obtain ⟨rfl, rfl, rfl⟩ := hcs
    exact ⟨[], ⟨fun _ => rfl, .inl ⟨⟨_, _, rfl⟩, rfl⟩⟩, by simp⟩
  · simp [Value.cells] at hcs
    obtain ⟨rfl, rfl, rfl⟩ := hcs
    have c4 : Tryz.prog.cellsOf 34 = 4 := by kernel_rfl
    have each : ∀ i, i < elems.length → ∃ x : Tok, (∀ j u, (cellsTk x)[j]? = some u → W.cell? ((a.add (i * 4)).add j) = some u) ∧ (elems[i]?).map (·.1) = some (tokD x) := by
      intro i hi
      have := hel i (by omega)
      rw [List.getElem?_eq_getElem hi] at this
      obtain ⟨x, h1, h2⟩ := tok_elem this
      rw [c4] at h1
      exact ⟨x, h1, by rw [List.getElem?_eq_getElem hi]; simp [h2]⟩
    obtain ⟨f, hfx⟩ := Deep.choose_lt (α := Option Tok) (n := elems.length) (p := fun i o => ∃ x, o = some x ∧ (∀ j u, (cellsTk x)[j]? = some u → W.cell? ((a.add (i * 4)).add j) = some u) ∧ (elems[i]?).map (·.1) = some (tokD x)) (fun i hi => by
      obtain ⟨x, hx⟩ := each i hi
      exact ⟨some x, x, rfl, hx⟩)
    have hget : ∀ i, i < elems.length → ((List.range elems.length).map fun i => (f i).getD ⟨0, [], 0, 0⟩)[i]? = some ((f i).getD ⟨0, [], 0, 0⟩) := by
      intro i hi; simp [hi]
    refine ⟨(List.range elems.length).map fun i => (f i).getD ⟨0, [], 0, 0⟩, ?_, ?_⟩
    · by_cases h0 : elems.length = 0
      · have : len0 = 0 := by omega
        subst this
        exact ⟨fun _ => rfl, .inl ⟨⟨_, _, rfl⟩, by simp [h0]⟩⟩
      · have hspot : ∃ g off, a = ⟨g, off, none⟩ := by
          obtain ⟨x, _, h1, _⟩ := hfx 0 (by omega)
          have := h1 0 _ rfl
          have ha : (a.add (0 * 4)).add 0 = a := by simp [Addr.add]
          rw [ha] at this
          unfold World.cell? at this
          split at this
          · split at this
            · cases this
            · rename_i hs
              exact ⟨a.block, a.off, by cases a; simp at hs; simp [hs]⟩
          · cases this
        obtain ⟨g, off, rfl⟩ := hspot
        have hll : ((List.range elems.length).map fun i => (f i).getD ⟨0, [], 0, 0⟩).length = len0 := by simp [hlen]
        have hrd := Rd.of_cells (W := W) (g := g) (off := off) (cap := cap0) (size := 4) (enc := cellsTk) (l := (List.range elems.length).map fun i => (f i).getD ⟨0, [], 0, 0⟩) (fun _ => rfl) (by decide) (by
          intro e; rw [← List.length_eq_zero_iff, hll] at e; omega) (by
          intro i x j u hx hu
          have hi : i < elems.length := by have := (List.getElem?_eq_some_iff.1 hx).1; simpa using this
          rw [hget i hi] at hx
          obtain ⟨x', e, h1, _⟩ := hfx i hi
          rw [e] at hx
          simp only [Option.getD_some, Option.some.injEq] at hx
          subst hx
          have := h1 j u hu
          have ha : (((⟨g, off, none⟩ : Addr).add (i * 4)).add j) = ⟨g, off + (i * 4 + j), none⟩ := by
            rw [Deep.add_add]; unfold Addr.add; split
            · rename_i h; rw [h]; rfl
            · rfl
          rwa [ha] at this)
        rw [hll] at hrd
        exact hrd
    · intro x hx
      obtain ⟨i, hi, rfl⟩ := List.mem_map.1 hx
      rw [List.mem_range] at hi
      obtain ⟨x, e, _, h2⟩ := hfx i hi
      rw [e]
      simp only [Option.getD_some]
      have hd : d = .slice (elems.map (·.1)) (rest.map (·.1)) := congrArg Prod.fst hxd
      have hmem : tokD x ∈ elems.map (·.1) := by
        rw [List.getElem?_eq_getElem hi] at h2
        simp only [Option.map_some, Option.some.injEq] at h2
        rw [← h2]
        exact List.mem_map.2 ⟨_, List.getElem_mem hi, rfl⟩
      have hall : ∀ (l : List (DataW H)), tokD x ∈ l → ∀ k ∈ (tokD x : DataW H).weights Tryz.prog 34, k ∈ DataW.weightsAll Tryz.prog 34 l := by
        intro l
        induction l with
        | nil => intro h; simp at h
        | cons z l ih =>
          intro h k hk
          rw [DataW.weightsAll, List.mem_append]
          rcases List.mem_cons.1 h with rfl | h
          · exact .inl hk
          · exact .inr (ih h k hk)
      have hw : x.text.length ∈ (tokD x : DataW H).weights Tryz.prog 34 := by
        simp [tokD, DataW.weights, Tryz.underlying34, DataW.weightsEach]
      have := hz x.text.length (by
        rw [hd, DataW.weights, Tryz.underlying22]
        simp only [List.mem_cons, List.mem_append]
        exact .inr (.inl (hall _ hmem _ hw)))
      have h47 := reachBytes_lt
      omega

end

end Go.Proofs.YtogmealngeejmaaGreatDoor
