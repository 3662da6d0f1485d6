/- The lexer: the index of the class that a byte begins. -/
import Derived.Test.YtogmealngeejmaaDoorLexI
namespace Go.Proofs.YtogmealngeejmaaDoor
open Go Go.RowKit

/-- The class that a byte begins; -1: none. -/
def clsIdx (b : UInt8) : Int :=
  if clsP 0 b = true then 0 else if clsP 1 b = true then 1 else if clsP 2 b = true then 2 else if clsP 3 b = true then 3 else if clsP 4 b = true then 4 else if clsP 5 b = true then 5 else -1

theorem clsIdx_eq {b : UInt8} {k : Nat} (hk : k < 6) (h1 : ∀ j, j < k → clsP j b = false) (h2 : clsP k b = true) : clsIdx b = k := by
  unfold clsIdx
  match k, hk with
  | 0, _ => rw [if_pos h2]; rfl
  | 1, _ => rw [if_neg (by rw [h1 0 (by omega)]; simp), if_pos h2]; rfl
  | 2, _ => rw [if_neg (by rw [h1 0 (by omega)]; simp), if_neg (by rw [h1 1 (by omega)]; simp), if_pos h2]; rfl
  | 3, _ => rw [if_neg (by rw [h1 0 (by omega)]; simp), if_neg (by rw [h1 1 (by omega)]; simp), if_neg (by rw [h1 2 (by omega)]; simp), if_pos h2]; rfl
  | 4, _ => rw [if_neg (by rw [h1 0 (by omega)]; simp), if_neg (by rw [h1 1 (by omega)]; simp), if_neg (by rw [h1 2 (by omega)]; simp), if_neg (by rw [h1 3 (by omega)]; simp), if_pos h2]; rfl
  | 5, _ => rw [if_neg (by rw [h1 0 (by omega)]; simp), if_neg (by rw [h1 1 (by omega)]; simp), if_neg (by rw [h1 2 (by omega)]; simp), if_neg (by rw [h1 3 (by omega)]; simp), if_neg (by rw [h1 4 (by omega)]; simp), if_pos h2]; rfl
theorem clsIdx_none {b : UInt8} (h : ∀ j, j < 6 → clsP j b = false) : clsIdx b = -1 := by
  unfold clsIdx
  rw [if_neg (by rw [h 0 (by omega)]; simp), if_neg (by rw [h 1 (by omega)]; simp), if_neg (by rw [h 2 (by omega)]; simp), if_neg (by rw [h 3 (by omega)]; simp), if_neg (by rw [h 4 (by omega)]; simp), if_neg (by rw [h 5 (by omega)]; simp)]

set_option maxRecDepth 100000 in
set_option maxHeartbeats 400000 in
theorem indexCls_c {w : World} {r : Nat} {t : ByteArray} {a : Nat} {l : Lx.Bs} {line col name : Int} (h : RdL w r t a l line col name) (pb cb : Nat) (hpb : w.cell? ⟨pb, 0, none⟩ = some (.pointer (some ⟨r, 0, none⟩)))
    (hcb : w.heap[cb]? = some (.cells clsCells 101 (0, 0))) :
    Calls Tryd.prog 59 #[.slice (some ⟨cb, 0, none⟩) 6 6, .func (.func 60) #[] #[.pointer (some ⟨pb, 0, none⟩)]] w fun e w' =>
      e = .returned (.int .i64 (clsIdx (Lx.nx l 0))) ∧ Kp [] w w' := by
  have hp : pb < w.heap.size := World.block_lt_of_cell? w _ hpb
  have hclt := lt_of_block hcb
  have hent : ∀ args w, (callFunc 60 args).run Tryd.prog w = .ok (.enter 60 args) w := Proofs.enters_of Tryd.func60 (by kernel_rfl) rfl
  obtain ⟨R, hR⟩ : ∃ R, R = clsIdx (Lx.nx l 0) := ⟨_, rfl⟩
  rw [← hR]
  have HR := Lib.hid hR; clear hR
  have HPB := Lib.hid hpb; clear hpb
  have HCB := Lib.hid hcb; clear hcb
  go_enter Tryd.func59, Tryd.ntmps59
  go_wp2
  go_loopw [8] (fun i wr => ∃ k : Nat, k ≤ 6 ∧ i = .int .i64 k ∧ Hid (∀ j, j < k → clsP j (Lx.nx l 0) = false) ∧ Kp [] w wr) (fun i _ => 6 - (intOf i).toNat)
  case atStart => exact ⟨0, Nat.zero_le _, rfl, fun j hj => by omega, Kp.refl _ _⟩
  case round =>
    obtain ⟨k, hk, rfl, hall, hkw⟩ := hrel
    by_cases hk6 : k < 6
    · have hc2 := cls_cell (hkw.heap HCB.out (by simp)) k hk6
      obtain ⟨c1, c2⟩ := hc2
      have hpbk : wr.cell? ⟨pb, 0, none⟩ = some (.pointer (some ⟨r, 0, none⟩)) := (hkw.cell (p := ⟨pb, 0, none⟩) hp (by simp)).trans HPB.out
      have HB := Lib.hid (begins_c (h.keep hkw (by simp)) k pb hpbk (by have := hkw.size; omega))
      clear hpbk
      go_wp2_with fail
      refine HB.out.mono ?_
      rintro e w2 ⟨rfl, hk2⟩
      cases hq : clsP k (Lx.nx l 0)
      · have HQ := Lib.hid hq; clear hq
        go_wp2
        go_roundw
        case rel =>
          refine ⟨k + 1, by omega, by go_num, fun j hj => ?_, hkw.trans hk2⟩
          by_cases hjk : j < k
          · exact hall j hjk
          · obtain rfl : j = k := by omega
            exact HQ.out
        case measure => simp [intOf]; omega
      · have HQ := Lib.hid hq; clear hq
        go_wp2
        go_ret
        exact ⟨ret_int (by rw [HR.out, clsIdx_eq hk6 hall HQ.out]), hkw.trans hk2⟩
    · obtain rfl : k = 6 := by omega
      go_wp2
      go_ret
      exact ⟨ret_int (by rw [HR.out, clsIdx_none hall]), hkw⟩

end Go.Proofs.YtogmealngeejmaaDoor
