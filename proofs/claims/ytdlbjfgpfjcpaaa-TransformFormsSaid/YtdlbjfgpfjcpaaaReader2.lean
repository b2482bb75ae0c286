/- compose's long, split: how great a piece is, and how it is cut. Condition: the numbers read as values of their types. -/
import Derived.Test.YtdlbjfgpfjcpaaaReader
import Derived.Test.YtdlbjfgpfjcpaaaPlainC
import Derived.StillTailTactics
import Derived.IntWalk
namespace Go.Proofs.Ytdlbjfgpfjcpaaa
open Go.RowKit

theorem bal {w W : World} {o : Obj} (h : Below w.heap.size w W) : Below w.heap.size w (W.alloc o) := h.alloc h.size o
theorem bdr {w W : World} (h : Below w.heap.size w W) : Below w.heap.size w W.drew := h.drew

set_option maxHeartbeats 1000000 in
theorem long_any (p : Pc) (w : World) (h1 : 0 ≤ p.n) (h2 : p.n ≤ 1000000000000) (h3 : p.t.length ≤ 1000000000000) :
    Calls Try.prog 69 #[p.v] w fun e w' => e = .returned (.int .i64 (lg p)) ∧ Below w.heap.size w w' := by
  obtain ⟨k, n, t⟩ := p
  unfold Pc.v lg
  dsimp only at h1 h2 h3 ⊢
  have hw : IntKind.i64.wrap (n + (t.length : Int)) = n + t.length := IntWalk.i64_in _ (by omega)
  go_enter Try.func69, Try.ntmps69
  go_wp2
  go_ret
  exact ⟨rfl, (Below.refl _ _).alloc (Nat.le_refl _) _⟩

set_option maxRecDepth 100000 in
set_option maxHeartbeats 2000000 in
theorem split_any (p : Pc) (n : Int) (w : World) (h1 : 0 ≤ n) (h2 : n ≤ lg p) (hv : p.valid = true) (h3 : p.n ≤ 1000000000000) (h4 : p.t.length ≤ 1000000000000) :
    Calls Try.prog 120 #[p.v, .int .i64 n] w fun e w' => e = .returned (.tuple #[(splA p n).v, (splB p n).v]) ∧ ∃ o1 o2 o3 o4 o5, w' = (((((w.alloc o1).alloc o2).alloc o3).alloc o4).alloc o5).drew.drew.drew := by
  unfold splA splB
  unfold lg at h2
  have hn := Val.n hv
  have hk := Pc.valid_cases hv
  clear hv
  obtain ⟨k, m, t⟩ := p
  unfold Pc.v
  dsimp only at h2 h3 h4 hn hk ⊢
  obtain ⟨q, rfl⟩ := Int.eq_ofNat_of_zero_le h1
  by_cases h : k = 2
  · have hq : q ≤ t.length := by omega
    have hm : m = 0 := by omega
    subst h hm
    clear hk h2 h3 hn
    have hx1 : (⟨t.toArray⟩ : ByteArray).extract 0 q = ⟨(t.take q).toArray⟩ := by rw [ext_str]; simp
    have hx2 : (⟨t.toArray⟩ : ByteArray).extract q t.length = ⟨(t.drop q).toArray⟩ := by rw [ext_str]; simp
    rw [if_pos rfl, if_pos rfl]
    go_enter Try.func120, Try.ntmps120
    go_wp2_with fail
    go_region
    all_goals go_wp2_with fail
    all_goals go_region
    all_goals go_wp2_with fail
    all_goals go_region
    all_goals go_wp2_with fail
    all_goals exact bodyPost_ret (v := .tuple #[.agg #[.int .u8 2, .int .i64 0, .string ⟨(t.take q).toArray⟩], .agg #[.int .u8 2, .int .i64 0, .string ⟨(t.drop q).toArray⟩]]) (by simp [results, Try.f120, go_sem]) rfl ⟨rfl, _, _, _, _, _, rfl⟩
  · have hw : IntKind.i64.wrap (m - (q : Int)) = m - q := IntWalk.i64_in _ (by omega)
    rw [if_neg h, if_neg h]
    have hk2 : (k == 2) = false := by rw [beq_eq_false_iff_ne]; exact h
    clear hk h2 h3 hn h
    go_enter Try.func120, Try.ntmps120
    go_wp2_with fail
    go_region
    all_goals go_wp2_with fail
    all_goals go_region
    all_goals go_wp2_with fail
    all_goals go_region
    all_goals go_wp2_with fail
    all_goals exact bodyPost_ret (v := .tuple #[.agg #[.int .u8 k, .int .i64 q, .string ⟨t.toArray⟩], .agg #[.int .u8 k, .int .i64 (m - q), .string ⟨t.toArray⟩]]) (by simp [results, Try.f120, go_sem]) rfl ⟨rfl, _, _, _, _, _, rfl⟩

end Go.Proofs.Ytdlbjfgpfjcpaaa
