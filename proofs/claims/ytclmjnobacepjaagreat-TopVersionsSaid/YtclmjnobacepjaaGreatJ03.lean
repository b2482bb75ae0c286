/- package handle: Make, parts, Check, Slot, Gen at handles of slots below 16384 and generation 1. -/
import Derived.Test.YtclmjnobacepjaaGreatJ01
import Derived.IntWalk
import Derived.Laws.Bits64b
import Derived.Outline
import Derived.Test.YtclmjnobacepjaaGreatJ02
namespace Go.Proofs.YtclmjnobacepjaaGreat
open Go.RowKit

/-- the handle of slot i with generation 1 -/
def hd (i : Nat) : Nat := 65536 + i

theorem and_hd (i : Nat) (hi : i < 16384) : bits .and .u64 ((hd i : Nat) : Int) 65535 = (i : Nat) := by
  have := bits_and_u64_nat (hd i) 65535 (by unfold hd; omega) (by omega)
  rw [show (65535 : Int) = ((65535 : Nat) : Int) from rfl, this, show 65535 = 2 ^ 16 - 1 from rfl, Nat.and_two_pow_sub_one_eq_mod]
  unfold hd; omega
theorem or_hd (i : Nat) (hi : i < 16384) : bits .or .u64 65536 ((i : Nat) : Int) = (hd i : Nat) := by
  have := bits_or_u64_nat 65536 i (by omega) (by omega)
  rw [show (65536 : Int) = ((65536 : Nat) : Int) from rfl, this, show 65536 = 1 <<< 16 from rfl, ← Nat.shiftLeft_add_eq_or_of_lt (by omega)]
  rfl

set_option maxRecDepth 100000 in
theorem make_any (i : Nat) (hi : i < 16384) (w : World) : Calls Tryz.prog 43 #[.int .i64 i, .int .u64 1] w fun e w' => e = .returned (.tuple #[.int .u64 (hd i : Nat), .int .i64 0]) ∧ w' = w := by
  have ho := or_hd i hi
  go_enter Tryz.func43, Tryz.ntmps43
  go_wp2
  go_ret2
  exact ⟨rfl, rfl⟩

set_option maxRecDepth 100000 in
theorem parts_any (i : Nat) (hi : i < 16384) (w : World) : Calls Tryz.prog 79 #[.int .u64 (hd i : Nat)] w fun e w' => e = .returned (.tuple #[.int .i64 i, .int .u64 1]) ∧ w' = w := by
  have ho := and_hd i hi
  have h1 : (hd i : Int) / 65536 = 1 := by unfold hd; omega
  go_enter Tryz.func79, Tryz.ntmps79
  go_wp2
  go_ret2
  exact ⟨rfl, rfl⟩

set_option maxRecDepth 100000 in
theorem hcheck_any (i : Nat) (hi : i < 16384) (w : World) : Calls Tryz.prog 78 #[.int .u64 (hd i : Nat)] w fun e w' => e = .returned (.int .i64 0) ∧ w' = w := by
  have c := Lib.hid (parts_any i hi)
  have d1 : decide ((i : Int) ≥ 16384) = false := decide_eq_false (by omega)
  have d2 : decide ((16384 : Int) ≤ i) = false := decide_eq_false (by omega)
  have d3 : decide (16384 ≤ i) = false := decide_eq_false (by omega)
  clear hi
  go_enter Tryz.func78, Tryz.ntmps78
  go_wp2_with (go_at_call 79; refine (c.out _).mono ?_; rintro e w' ⟨rfl, rfl⟩)
  go_ret
  exact ⟨rfl, rfl⟩

set_option maxRecDepth 100000 in
theorem hslot_any (i : Nat) (hi : i < 16384) (w : World) : Calls Tryz.prog 60 #[.int .u64 (hd i : Nat)] w fun e w' => e = .returned (.tuple #[.int .i64 i, .int .i64 0]) ∧ w' = w := by
  have c1 := Lib.hid (parts_any i hi)
  have c2 := Lib.hid (hcheck_any i hi)
  clear hi
  go_enter Tryz.func60, Tryz.ntmps60
  go_wp2_with (first | (go_at_call 79; refine (c1.out _).mono ?_; rintro e w' ⟨rfl, rfl⟩) | (go_at_call 78; refine (c2.out _).mono ?_; rintro e w' ⟨rfl, rfl⟩))
  go_ret2
  exact ⟨rfl, rfl⟩

set_option maxRecDepth 100000 in
theorem hgen_any (i : Nat) (hi : i < 16384) (w : World) : Calls Tryz.prog 61 #[.int .u64 (hd i : Nat)] w fun e w' => e = .returned (.tuple #[.int .u64 1, .int .i64 0]) ∧ w' = w := by
  have c1 := Lib.hid (parts_any i hi)
  have c2 := Lib.hid (hcheck_any i hi)
  clear hi
  go_enter Tryz.func61, Tryz.ntmps61
  go_wp2_with (first | (go_at_call 79; refine (c1.out _).mono ?_; rintro e w' ⟨rfl, rfl⟩) | (go_at_call 78; refine (c2.out _).mono ?_; rintro e w' ⟨rfl, rfl⟩))
  go_ret2
  exact ⟨rfl, rfl⟩

end Go.Proofs.YtclmjnobacepjaaGreat

/- Plain words on ropes: nodes by number, their texts; what is well formed. No program in sight. -/
namespace Go.Proofs.YtclmjnobacepjaaGreat
open Go.RowKit

/-- a node: its height, the text below it, its children's numbers -/
structure Nd where
  ht : Nat
  T : List UInt8
  ks : List Nat
abbrev Ar := List Nd
def txt (G : Ar) (k : Nat) : List UInt8 := match G[k]? with | some x => x.T | none => []
def htOf (G : Ar) (k : Nat) : Nat := match G[k]? with | some x => x.ht | none => 0
def ksOf (G : Ar) (k : Nat) : List Nat := match G[k]? with | some x => x.ks | none => []
/-- a kid of a node of height h + 1, among the first i nodes -/
def KidOK (G : Ar) (i h k : Nat) : Prop := k < i ∧ ∃ x, G[k]? = some x ∧ x.ht = h ∧ (h = 0 → 8 ≤ x.T.length)
def NdOK (G : Ar) (i : Nat) (x : Nd) : Prop :=
  (x.ht = 0 ∧ x.ks = [] ∧ 1 ≤ x.T.length ∧ x.T.length ≤ 16) ∨
  (∃ h, x.ht = h + 1 ∧ 2 ≤ x.ks.length ∧ x.ks.length ≤ 4 ∧ (∀ k ∈ x.ks, KidOK G i h k) ∧ x.T = (x.ks.map (txt G)).flatten)
def ArOK (G : Ar) : Prop := ∀ (i : Nat) (x : Nd), G[i]? = some x → NdOK G i x

theorem txt_of {G : Ar} {k : Nat} {x : Nd} (h : G[k]? = some x) : txt G k = x.T := by rw [txt, h]
theorem get_app {G H : Ar} {k : Nat} {x : Nd} (h : G[k]? = some x) : (G ++ H)[k]? = some x := by
  rw [List.getElem?_append_left (List.getElem?_eq_some_iff.1 h).1]; exact h
theorem txt_app {G H : Ar} {k : Nat} (h : k < G.length) : txt (G ++ H) k = txt G k := by
  unfold txt; rw [List.getElem?_append_left h]
theorem ks_app {G H : Ar} {k : Nat} (h : k < G.length) : ksOf (G ++ H) k = ksOf G k := by
  unfold ksOf; rw [List.getElem?_append_left h]
theorem KidOK.app {G H : Ar} {i h k : Nat} (q : KidOK G i h k) : KidOK (G ++ H) i h k := by
  obtain ⟨a, x, b, c⟩ := q
  exact ⟨a, x, get_app b, c⟩
theorem KidOK.mono {G : Ar} {i j h k : Nat} (q : KidOK G i h k) (hj : i ≤ j) : KidOK G j h k := ⟨Nat.lt_of_lt_of_le q.1 hj, q.2⟩
theorem NdOK.app {G H : Ar} {i : Nat} {x : Nd} (hi : i ≤ G.length) (q : NdOK G i x) : NdOK (G ++ H) i x := by
  rcases q with q | ⟨h, a, b, c, d, e⟩
  · exact .inl q
  · refine .inr ⟨h, a, b, c, fun k hk => (d k hk).app, ?_⟩
    rw [e]
    congr 1
    exact List.map_congr_left fun k hk => (txt_app (by have := (d k hk).1; omega)).symm
theorem ArOK.snoc {G : Ar} {x : Nd} (h : ArOK G) (hx : NdOK G G.length x) : ArOK (G ++ [x]) := by
  intro i y hy
  by_cases hi : i < G.length
  · rw [List.getElem?_append_left hi] at hy
    exact (h i y hy).app (by omega)
  · have : i = G.length := by
      have := (List.getElem?_eq_some_iff.1 hy).1
      simp at this; omega
    subst this
    simp at hy
    subst hy
    exact hx.app (Nat.le_refl _)
theorem ArOK.nil : ArOK [] := by intro i x h; simp at h

/-- how many bytes a node has -/
theorem pow2_le : ∀ (l : List (List UInt8)) (m M : Nat), (∀ T ∈ l, m ≤ T.length ∧ T.length ≤ M) → l.length * m ≤ l.flatten.length ∧ l.flatten.length ≤ l.length * M := by
  intro l m M h
  induction l with
  | nil => simp
  | cons T l ih =>
    have h1 := h T (by simp)
    have h2 := ih fun S hS => h S (by simp [hS])
    rw [List.flatten_cons, List.length_append, List.length_cons, Nat.succ_mul, Nat.succ_mul]
    omega
theorem nd_size {G : Ar} (hG : ArOK G) : ∀ (h i : Nat) (x : Nd), G[i]? = some x → x.ht = h → x.T.length ≤ 16 * 4 ^ h ∧ (0 < h → 8 * 2 ^ h ≤ x.T.length) := by
  intro h
  induction h with
  | zero =>
    intro i x hx hh
    rcases hG i x hx with ⟨_, _, _, q⟩ | ⟨h', a, _⟩
    · exact ⟨by simpa using q, fun q => absurd q (by omega)⟩
    · omega
  | succ h ih =>
    intro i x hx hh
    rcases hG i x hx with ⟨q, _⟩ | ⟨h', a, b, c, d, e⟩
    · omega
    · obtain rfl : h' = h := by omega
      have hk : ∀ T ∈ x.ks.map (txt G), 8 * 2 ^ h' ≤ T.length ∧ T.length ≤ 16 * 4 ^ h' := by
        intro T hT
        obtain ⟨k, hk, rfl⟩ := List.mem_map.1 hT
        obtain ⟨k1, y, hy, hyh, hy8⟩ := d k hk
        obtain ⟨p, q⟩ := ih k y hy hyh
        rw [txt_of hy]
        refine ⟨?_, p⟩
        rcases Nat.eq_zero_or_pos h' with e0 | e0
        · subst e0; simpa using hy8 rfl
        · exact q e0
      have := pow2_le _ _ _ hk
      rw [← e, List.length_map] at this
      have e2 : 8 * 2 ^ (h' + 1) = 2 * (8 * 2 ^ h') := by rw [Nat.pow_succ]; omega
      have e4 : 16 * 4 ^ (h' + 1) = 4 * (16 * 4 ^ h') := by rw [Nat.pow_succ]; omega
      rw [e2, e4]
      refine ⟨Nat.le_trans this.2 (Nat.mul_le_mul_right _ c), fun _ => Nat.le_trans (Nat.mul_le_mul_right _ b) this.1⟩
theorem nd_pos {G : Ar} (hG : ArOK G) {i : Nat} {x : Nd} (hx : G[i]? = some x) : 1 ≤ x.T.length := by
  rcases hG i x hx with ⟨_, _, q, _⟩ | ⟨h, a, _⟩
  · exact q
  · have := (nd_size hG _ i x hx rfl).2 (by omega)
    have : 0 < 2 ^ x.ht := Nat.pow_pos (by omega)
    omega
theorem ht_le {G : Ar} (hG : ArOK G) {i : Nat} {x : Nd} (hx : G[i]? = some x) (hT : x.T.length ≤ 65536) : x.ht ≤ 13 := by
  by_cases h : x.ht ≤ 13
  · exact h
  · have := (nd_size hG _ i x hx rfl).2 (by omega)
    have h2 : 2 ^ 14 ≤ 2 ^ x.ht := Nat.pow_le_pow_right (by omega) (by omega)
    omega
theorem kid_size {G : Ar} (hG : ArOK G) {i h k : Nat} (hk : KidOK G i h k) : 8 * 2 ^ h ≤ (txt G k).length ∧ (txt G k).length ≤ 16 * 4 ^ h := by
  obtain ⟨k1, y, hy, hyh, hy8⟩ := hk
  obtain ⟨p, q⟩ := nd_size hG h k y hy hyh
  rw [txt_of hy]
  refine ⟨?_, p⟩
  rcases Nat.eq_zero_or_pos h with e0 | e0
  · subst e0; simpa using hy8 rfl
  · exact q e0

/-- a child as it lies in memory: its node's number, its measure -/
structure Kd where
  at_ : Nat
  m : Ms
def kdE : Enc Kd := ⟨4, by decide, fun k => [.int .u64 (hd k.at_ : Nat), .int .i64 k.m.b, .int .i64 k.m.r, .int .i64 k.m.n], fun _ => rfl, by intro x u h; simp at h; rcases h with rfl | rfl | rfl | rfl <;> rfl⟩
def kdOf (G : Ar) (k : Nat) : Kd := ⟨k, meas (txt G k)⟩
/-- a node's own text -/
def ownT (x : Nd) : List UInt8 := if x.ht = 0 then x.T else []
/-- a node as a value, with the slice of its children -/
def ndV (x : Nd) (kv : Value) : Value := .agg #[.int .i64 x.ht, .string ⟨(ownT x).toArray⟩, kv]
theorem infoKd : (Tryz.prog.info? 114).map (fun i => (i.zero, i.size, i.bytes)) = some (some (.agg #[.int .u64 0, .int .i64 0, .int .i64 0, .int .i64 0]), 4, 32) := by kernel_rfl
theorem kdOK : EOK kdE 82 114 := EOK.mk' Tryz.underlying82 infoKd rfl rfl (by omega)
theorem Sl.kd {w : World} {v : Value} {l : List Kd} (h : Sl kdE w v l) {k : Nat} (hk : k < l.length) :
    ∃ b off cap, v = .slice (some ⟨b, off, none⟩) l.length cap ∧ b < w.heap.size ∧ ∀ w', Below w.heap.size w w' → w'.cell? ⟨b, off + k * 4, none⟩ = some (.int .u64 (hd l[k].at_ : Nat)) ∧ w'.cell? ⟨b, off + k * 4 + 1, none⟩ = some (.int .i64 l[k].m.b) ∧ w'.cell? ⟨b, off + k * 4 + 2, none⟩ = some (.int .i64 l[k].m.r) ∧ w'.cell? ⟨b, off + k * 4 + 3, none⟩ = some (.int .i64 l[k].m.n) := by
  obtain ⟨A, cap, rfl, h2, h3, h4⟩ := h
  obtain ⟨b, off, rfl, hb, hc⟩ := h4 (by omega)
  have hx : l[k]? = some l[k] := List.getElem?_eq_getElem hk
  exact ⟨b, off, cap, rfl, hb, fun w' hb' => ⟨(hb'.cell (p := ⟨b, _, none⟩) hb).trans (hc k 0 _ _ hx rfl), (hb'.cell (p := ⟨b, _, none⟩) hb).trans (hc k 1 _ _ hx rfl), (hb'.cell (p := ⟨b, _, none⟩) hb).trans (hc k 2 _ _ hx rfl), (hb'.cell (p := ⟨b, _, none⟩) hb).trans (hc k 3 _ _ hx rfl)⟩⟩

theorem Sl.keepB {α : Type} {E : Enc α} {w w' : World} {v : Value} {l : List α} (h : Sl E w v l) (hs : w.heap.size ≤ w'.heap.size) (hk : ∀ g, v.ownBlock = some g → w'.heap[g]? = w.heap[g]?) : Sl E w' v l := by
  obtain ⟨A, cap, rfl, h2, h3, h4⟩ := h
  refine ⟨A, cap, rfl, h2, h3, fun hp => ?_⟩
  obtain ⟨b, off, rfl, hb, hc⟩ := h4 hp
  exact ⟨b, off, rfl, Nat.lt_of_lt_of_le hb hs, fun i j x u hx hu => (World.cell?_of_block (a := ⟨b, _, none⟩) (hk b rfl)).trans (hc i j x u hx hu)⟩

end Go.Proofs.YtclmjnobacepjaaGreat
