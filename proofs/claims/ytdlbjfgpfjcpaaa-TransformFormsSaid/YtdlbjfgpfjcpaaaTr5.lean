/- transform.bytes: the next bytes of the string. Condition: the walk lies in its block. -/
import Derived.Test.YtdlbjfgpfjcpaaaTr4
namespace Go.Proofs.Ytdlbjfgpfjcpaaa
open Go.RowKit

set_option maxHeartbeats 2000000 in
set_option maxRecDepth 100000 in
theorem bytes_end {w0 : World} {B1 b d1 d2 : Nat} {f : Bool} {X Y O : List Pc} {A : Option Addr} {c : Nat} (w : World) (h : WK w0 B1 b d1 d2 f X Y O A c w) (hn : X = [] ∨ Y = []) :
    Calls Try.prog 118 #[.pointer (some ⟨b, 0, none⟩)] w fun e w' => e = .returned .nilFunc ∧ WK w0 B1 b d1 d2 f X Y O A c w' := by
  obtain ⟨A1, c1, A2, c2, h⟩ := h.we
  obtain ⟨hlt, e0, e1, e2, e3, fz⟩ := h.cells
  have H := Lib.hid h
  clear h
  by_cases hx : X = []
  · subst hx
    clear hn
    rw [List.length_nil] at e0
    go_enter Try.func118, Try.ntmps118
    go_wp2
    go_ret
    exact ⟨rfl, H.out.wk⟩
  · have hy : Y = [] := hn.resolve_left hx
    subst hy
    have hz : ((X.length : Int) == 0) = false := by
      have : 0 < X.length := List.length_pos_iff.2 hx
      rw [beq_eq_false_iff_ne]; omega
    clear hn hx
    rw [List.length_nil] at e1
    go_enter Try.func118, Try.ntmps118
    go_wp2
    go_ret
    exact ⟨rfl, H.out.wk⟩

theorem WE.ob {w0 : World} {B1 b d1 d2 : Nat} {f : Bool} {X Y O : List Pc} {A1 : Option Addr} {c1 : Nat} {A2 : Option Addr} {c2 : Nat} {A : Option Addr} {c : Nat} {w : World} (h : WE w0 B1 b d1 d2 f X Y O A1 c1 A2 c2 A c w) : ∀ k, (Value.slice A O.length c).ownBlock = some k → k < w.heap.size := fun k hk => (h.o.lt k hk).2

theorem box3 {W : World} {g : Nat} {x0 x1 x2 : Value} {e : TypeId} {fz : Nat × Nat} (h : W.heap[g]? = some (.cells #[x0, x1, x2] e fz)) (a b c : Value) : (((W.setCell ⟨g, 0, none⟩ a).setCell ⟨g, 1, none⟩ b).setCell ⟨g, 2, none⟩ c).heap[g]? = some (.cells #[a, b, c] e fz) := by
  have := set_at (set_at (set_at h 0 a) 1 b) 2 c
  rw [this]
  simp
theorem al_new {w : World} {o o' : Obj} {k : Nat} (h : k = w.heap.size) (ho : o = o') : (w.alloc o).heap[k]? = some o' := by subst h ho; exact heap_alloc_new w o
theorem al_old {w : World} {o : Obj} {k : Nat} (h : k < w.heap.size) : (w.alloc o).heap[k]? = w.heap[k]? := Below.heap_alloc w o k h
theorem st_oth {w : World} {a : Addr} {v : Value} {k : Nat} (h : k ≠ a.block) : (w.setCell a v).heap[k]? = w.heap[k]? := by
  simp only [World.setCell, Array.getElem?_modify]
  rw [if_neg (by omega)]
abbrev pO (k n : Int) : Obj := .cells #[.int .u8 k, .int .i64 n, .string ⟨#[]⟩] 31 (0, 0)


end Go.Proofs.Ytdlbjfgpfjcpaaa
