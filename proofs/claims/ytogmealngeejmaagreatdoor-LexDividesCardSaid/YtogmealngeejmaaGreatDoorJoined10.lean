import Derived.Test.YtogmealngeejmaaGreatDoorJoined9
import Derived.RecoverIn
import Derived.TacticsInMore
import Derived.RegionIn
/- The lexer: the deferred closure of 'divided' (recover), in its two modes. -/
namespace Go.Proofs.YtogmealngeejmaaGreatDoor
open Go Go.RowKit

def stopV (er : Int) (a : Int) : Value := .iface 100 (.agg #[.int .i64 er, .int .i64 a])

set_option maxRecDepth 100000 in
set_option maxHeartbeats 1000000 in
theorem caught_idle (p0 p1 p2 : Addr) (w : World) :
    CallsDIn Fence.wide 0 Tryz.prog 69 #[.pointer (some p0), .pointer (some p1), .pointer (some p2)] .returning w fun e u' w' => e = .returned (.tuple #[]) ∧ u' = .returning ∧ w' = w := by
  refine callsDIn_of_wpSIn Tryz.func69 rfl (by trivial) fun c₀ cs hu => ?_
  apply wpSIn_seq
  apply wpSIn_region
  simp [wpOpsSIn, go_sem, recoverD, hu, Tryz.ntmps69, Exit.thenS]
  refine wpSIn_of_wpIn rfl (wpIn_wide.2 ?_)
  obtain ⟨Q0, hQ0⟩ : ∃ Q0 : Exit → Act → World → Prop, Q0 = fun e a' w' => bodyPostS Tryz.prog Tryz.f69 c₀ cs (fun e u' w' => e = .returned (.tuple #[]) ∧ u' = .returning ∧ w' = w) e a' (c₀ :: cs) w' := ⟨_, rfl⟩
  rw [← hQ0]
  have e0 : (#[Value.pointer (some p0), Value.pointer (some p1), Value.pointer (some p2)] ++ (Array.replicate 13 undef).setIfInBounds 3 Value.nilIface : Array Value) = #[.pointer (some p0), .pointer (some p1), .pointer (some p2), undef, undef, undef, .nilIface, undef, undef, undef, undef, undef, undef, undef, undef, undef] := rfl
  rw [e0]
  go_wp2
  rw [hQ0]
  cases c₀
  simp_all [bodyPostS, results, Tryz.results69]

set_option maxRecDepth 100000 in
set_option maxHeartbeats 1000000 in
theorem caught_stop (b : Nat) (er a : Int) (v0 : Value) (x1 x2 : Int) (w : World) (h0 : w.heap[b]? = some (.cells #[v0] 65 (0, 0))) (h1 : w.heap[b + 1]? = some (.cells #[.int .i64 x1] 26 (0, 0))) (h2 : w.heap[b + 2]? = some (.cells #[.int .i64 x2] 3 (0, 0))) :
    CallsDIn Fence.wide 0 Tryz.prog 69 #[.pointer (some ⟨b, 0, none⟩), .pointer (some ⟨b + 1, 0, none⟩), .pointer (some ⟨b + 2, 0, none⟩)] (.panicking [{ v := stopV er a, recovered := false }]) w fun e u' w' =>
      e = .returned (.tuple #[]) ∧ u' = .panicking [{ v := stopV er a, recovered := true }] ∧ Kp [b, b + 1, b + 2] w w' ∧
      w'.heap[b]? = some (.cells #[.slice none 0 0] 65 (0, 0)) ∧ w'.heap[b + 1]? = some (.cells #[.int .i64 er] 26 (0, 0)) ∧ w'.heap[b + 2]? = some (.cells #[.int .i64 a] 3 (0, 0)) := by
  refine callsDIn_of_wpSIn Tryz.func69 rfl (by trivial) fun c₀ cs hu => ?_
  apply wpSIn_seq
  apply wpSIn_region
  simp [wpOpsSIn, go_sem, recoverD, hu, Tryz.ntmps69, Exit.thenS]
  refine wpSIn_of_wpIn rfl (wpIn_wide.2 ?_)
  obtain ⟨R0, hR0⟩ : ∃ R0 : Ending → FrameMode → World → Prop, R0 = fun e u' w' => e = .returned (.tuple #[]) ∧ u' = .panicking [{ v := stopV er a, recovered := true }] ∧ Kp [b, b + 1, b + 2] w w' ∧
      w'.heap[b]? = some (.cells #[.slice none 0 0] 65 (0, 0)) ∧ w'.heap[b + 1]? = some (.cells #[.int .i64 er] 26 (0, 0)) ∧ w'.heap[b + 2]? = some (.cells #[.int .i64 a] 3 (0, 0)) := ⟨_, rfl⟩
  obtain ⟨c1, hc1⟩ : ∃ c1 : Frame, c1 = { c₀ with mode := .panicking [{ v := stopV er a, recovered := true }] } := ⟨_, rfl⟩
  rw [← hR0, ← hc1]
  obtain ⟨Q0, hQ0⟩ : ∃ Q0 : Exit → Act → World → Prop, Q0 = fun e a' w' => bodyPostS Tryz.prog Tryz.f69 c₀ cs R0 e a' (c1 :: cs) w' := ⟨_, rfl⟩
  rw [← hQ0]
  have e0 : (#[Value.pointer (some ⟨b, 0, none⟩), Value.pointer (some ⟨b + 1, 0, none⟩), Value.pointer (some ⟨b + 2, 0, none⟩)] ++ (Array.replicate 13 undef).setIfInBounds 3 (stopV er a) : Array Value) = #[.pointer (some ⟨b, 0, none⟩), .pointer (some ⟨b + 1, 0, none⟩), .pointer (some ⟨b + 2, 0, none⟩), undef, undef, undef, stopV er a, undef, undef, undef, undef, undef, undef, undef, undef, undef] := rfl
  rw [e0]
  unfold stopV
  clear e0
  have HQ0 := Lib.hid hQ0; clear hQ0
  have HC1 := Lib.hid hc1; clear hc1
  have HR0 := Lib.hid hR0; clear hR0
  have hta : (Instr.typeAssert (.iface 100 (.agg #[.int .i64 er, .int .i64 a])) 20 100 true).run Tryz.prog w = .ok (.tuple #[.agg #[.int .i64 er, .int .i64 a], .bool true]) w := by
    have hu := Tryz.underlying100
    simp [Instr.typeAssert, run_underlying hu, go_sem, Result.andThen]
  have hlt := lt_of_block h2
  go_wp2_with fail
  obtain ⟨W1, hW1⟩ : ∃ W1, W1 = w.alloc (.cells #[.int .i64 er, .int .i64 a] 100) := ⟨_, rfl⟩
  have hk : Kp [] w W1 := by rw [hW1]; exact (Kp.refl [] w).alloc _
  have hn : W1.heap[w.heap.size]? = some (.cells #[.int .i64 er, .int .i64 a] 100 (0, 0)) := by rw [hW1]; exact heap_alloc_new w _
  rw [← hW1]
  clear hW1
  obtain ⟨nb, hnb⟩ : ∃ nb, nb = w.heap.size := ⟨_, rfl⟩
  rw [← hnb] at hn hlt ⊢
  clear hnb
  have k0 := hk.heap h0 (by simp)
  have k1 := hk.heap h1 (by simp)
  have k2 := hk.heap h2 (by simp)
  have f0 : W1.cell? ⟨b, 0, none⟩ = some v0 := cell_of_block k0 0
  have f1 : W1.cell? ⟨b + 1, 0, none⟩ = some (.int .i64 x1) := cell_of_block k1 0
  have f2 : W1.cell? ⟨b + 2, 0, none⟩ = some (.int .i64 x2) := cell_of_block k2 0
  have g0 : W1.cell? ⟨nb, 0, none⟩ = some (.int .i64 er) := cell_of_block hn 0
  have g1 : W1.cell? ⟨nb, 1, none⟩ = some (.int .i64 a) := cell_of_block hn 1
  have z0 := free_of_block k0 0
  have z1 := free_of_block k1 0
  have z2 := free_of_block k2 0
  have b0 : nb ≠ b := by omega
  have b1 : nb ≠ b + 1 := by omega
  have b2 : nb ≠ b + 2 := by omega
  have FIN : ∀ T, Q0 .normal { tmps := T, defers := [] } (((W1.setCell ⟨b, 0, none⟩ (.slice none 0 0)).setCell ⟨b + 1, 0, none⟩ (.int .i64 er)).setCell ⟨b + 2, 0, none⟩ (.int .i64 a)).drew := by
    intro T
    rw [HQ0.out]
    refine ⟨rfl, _, congrArg (· :: cs) HC1.out, .tuple #[], by simp [results, Tryz.results69], ?_⟩
    rw [HR0.out]
    refine ⟨rfl, rfl, ?_, ?_, ?_, ?_⟩
    · exact (((hk.nil.setCell (p := ⟨b, 0, none⟩) (.inl (by simp)) _).setCell (p := ⟨b + 1, 0, none⟩) (.inl (by simp)) _).setCell (p := ⟨b + 2, 0, none⟩) (.inl (by simp)) _).drew
    · exact block_other (block_other (block_setCell k0 0 _) (by simp) _) (by simp) _
    · exact block_other (block_setCell (block_other k1 (by simp) _) 0 _) (by simp) _
    · exact block_setCell (block_other (block_other k2 (by simp) _) (by simp) _) 0 _
  go_region
  all_goals exact FIN _

end Go.Proofs.YtogmealngeejmaaGreatDoor
