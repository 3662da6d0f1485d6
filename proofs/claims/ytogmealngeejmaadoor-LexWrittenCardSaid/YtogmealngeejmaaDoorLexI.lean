/- The lexer: the table of classes, and which of them a byte begins. -/
import Derived.Test.YtogmealngeejmaaDoorLexH
namespace Go.Proofs.YtogmealngeejmaaDoor
open Go Go.RowKit

set_option maxRecDepth 100000 in
set_option maxHeartbeats 400000 in
theorem classes1_c (b : UInt8) (w : World) : Calls Tryd.prog 67 #[.int .u8 b.toNat] w fun e w' => e = .returned (.bool ((b.toNat : Int) == 95)) ∧ w = w' := by
  have hb := byte_lt b
  go_enter Tryd.func67, Tryd.ntmps67
  go_wp2
  go_ret
  exact ⟨rfl, rfl⟩

set_option maxRecDepth 100000 in
set_option maxHeartbeats 400000 in
theorem classes2_c (b : UInt8) (w : World) : Calls Tryd.prog 71 #[.int .u8 b.toNat] w fun e w' => e = .returned (.bool ((b.toNat : Int) == 39)) ∧ w = w' := by
  have hb := byte_lt b
  go_enter Tryd.func71, Tryd.ntmps71
  go_wp2
  go_ret
  exact ⟨rfl, rfl⟩

/-- By the place in the table: what begins a class; how it is read; which bytes. -/
def clsF : Nat → FuncId
  | 0 => 30 | 1 => 67 | 2 => 69 | 3 => 71 | 4 => 31 | _ => 74
def clsG : Nat → FuncId
  | 0 => 66 | 1 => 68 | 2 => 70 | 3 => 72 | 4 => 73 | _ => 75
def clsP : Nat → UInt8 → Bool
  | 0 => Lx.letter | 1 => fun b => (b.toNat : Int) == 95 | 2 => Lx.digit | 3 => fun b => (b.toNat : Int) == 39 | 4 => Lx.isop | _ => Lx.issign

theorem cls_enters (k : Nat) : Proofs.Enters Tryd.prog (clsF k) := by
  match k with
  | 0 => exact Proofs.enters_of Tryd.func30 (by kernel_rfl) rfl
  | 1 => exact Proofs.enters_of Tryd.func67 (by kernel_rfl) rfl
  | 2 => exact Proofs.enters_of Tryd.func69 (by kernel_rfl) rfl
  | 3 => exact Proofs.enters_of Tryd.func71 (by kernel_rfl) rfl
  | 4 => exact Proofs.enters_of Tryd.func31 (by kernel_rfl) rfl
  | (n + 5) => exact Proofs.enters_of Tryd.func74 (by kernel_rfl) rfl
theorem cls_calls (k : Nat) (b : UInt8) (w : World) : Calls Tryd.prog (clsF k) #[.int .u8 b.toNat] w fun e w' => e = .returned (.bool (clsP k b)) ∧ w = w' := by
  match k with
  | 0 => exact isLetter_c b w
  | 1 => exact classes1_c b w
  | 2 => exact isDigit_c b w
  | 3 => exact classes2_c b w
  | 4 => exact isOp_c b w
  | (n + 5) => exact isSign_c b w

def clsCells : Array Value := #[.func (.func (clsF 0)) #[] #[], .func (.func (clsG 0)) #[] #[], .func (.func (clsF 1)) #[] #[], .func (.func (clsG 1)) #[] #[], .func (.func (clsF 2)) #[] #[], .func (.func (clsG 2)) #[] #[],
  .func (.func (clsF 3)) #[] #[], .func (.func (clsG 3)) #[] #[], .func (.func (clsF 4)) #[] #[], .func (.func (clsG 4)) #[] #[], .func (.func (clsF 5)) #[] #[], .func (.func (clsG 5)) #[] #[]]

theorem cls_cell {w : World} {b : Nat} (h : w.heap[b]? = some (.cells clsCells 101 (0, 0))) (k : Nat) (hk : k < 6) :
    w.cell? ⟨b, k * 2, none⟩ = some (.func (.func (clsF k)) #[] #[]) ∧ w.cell? ⟨b, k * 2 + 1, none⟩ = some (.func (.func (clsG k)) #[] #[]) := by
  rw [cell_of_block h, cell_of_block h]
  match k, hk with
  | 0, _ => exact ⟨rfl, rfl⟩
  | 1, _ => exact ⟨rfl, rfl⟩
  | 2, _ => exact ⟨rfl, rfl⟩
  | 3, _ => exact ⟨rfl, rfl⟩
  | 4, _ => exact ⟨rfl, rfl⟩
  | 5, _ => exact ⟨rfl, rfl⟩

set_option maxRecDepth 100000 in
set_option maxHeartbeats 400000 in
theorem classes_c (w : World) : Calls Tryd.prog 57 #[] w fun e w' =>
    e = .returned (.slice (some ⟨w.heap.size, 0, none⟩) 6 6) ∧ w' = w.alloc (.cells clsCells 101) := by
  go_enter Tryd.func57, Tryd.ntmps57
  go_wp2
  go_ret
  exact ⟨rfl, rfl⟩

set_option maxRecDepth 100000 in
set_option maxHeartbeats 400000 in
theorem begins_c {w : World} {r : Nat} {t : ByteArray} {a : Nat} {l : Lx.Bs} {line col name : Int} (h : RdL w r t a l line col name) (k pb : Nat) (hpb : w.cell? ⟨pb, 0, none⟩ = some (.pointer (some ⟨r, 0, none⟩))) (hp : pb < w.heap.size) :
    Calls Tryd.prog 60 #[.agg #[.func (.func (clsF k)) #[] #[], .func (.func (clsG k)) #[] #[]], .pointer (some ⟨pb, 0, none⟩)] w fun e w' =>
      e = .returned (.bool (clsP k (Lx.nx l 0))) ∧ Kp [] w w' := by
  have hc := cls_calls k (Lx.nx l 0)
  have he := cls_enters k
  obtain ⟨f, hf⟩ : ∃ f, f = clsF k := ⟨_, rfl⟩
  obtain ⟨g, hg⟩ : ∃ g, g = clsG k := ⟨_, rfl⟩
  rw [← hf] at hc he ⊢
  rw [← hg]
  clear hf hg
  obtain ⟨x, hx⟩ : ∃ x, x = clsP k (Lx.nx l 0) := ⟨_, rfl⟩
  rw [← hx] at hc ⊢
  clear hx
  have he' : ∀ args w, (callFunc f args).run Tryd.prog w = .ok (.enter f args) w := he
  clear he
  have hlt := h.lt
  have h1 : RdL (w.alloc (.cells #[.func (.func f) #[] #[], .func (.func g) #[] #[]] 101)) r t a l line col name := h.keep ((Kp.refl [] w).alloc _) (by simp)
  have hpb1 : (w.alloc (.cells #[.func (.func f) #[] #[], .func (.func g) #[] #[]] 101)).cell? ⟨pb, 0, none⟩ = some (.pointer (some ⟨r, 0, none⟩)) := by
    rw [World.cell?_alloc_past _ _ _ hp]; exact hpb
  go_enter Tryd.func60, Tryd.ntmps60
  go_wp2
  go_quiet (first | (go_at_call 61; exact Calls.quiet_of (next_l 0 (h1.drew _) (by omega) (by omega))) | (exact quiet_same (hc _)))
  go_wp2
  go_ret
  exact ⟨rfl, ((Kp.refl [] w).alloc _).drewN _⟩

end Go.Proofs.YtogmealngeejmaaDoor
