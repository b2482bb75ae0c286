/- transform's kind, put, take: the steps of a walk over two deltas. Condition: the walk lies in its block. -/
import Derived.Test.YtdlbjfgpfjcpaaaTake
import Derived.Test.YtdlbjfgpfjcpaaaJoined7
import Derived.Test.YtdlbjfgpfjcpaaaPair7
import Derived.BigQuiet
namespace Go.Proofs.Ytdlbjfgpfjcpaaa
open Go.RowKit

def wkObj (A1 : Option Addr) (n1 c1 : Nat) (A2 : Option Addr) (n2 c2 : Nat) (f : Bool) (A3 : Option Addr) (n3 c3 : Nat) : Obj :=
  .cells #[.slice A1 n1 c1, .slice A2 n2 c2, .bool f, .slice A3 n3 c3] 93 (0, 0)
/-- a list that lies in a row of block d, from somewhere on -/
def At (w : World) (d : Nat) (A : Option Addr) (cap : Nat) (l : List Pc) : Prop := l.length ≤ cap ∧ cap ≤ maxLen ∧ (l ≠ [] → ∃ off, A = some ⟨d, off, none⟩ ∧ Dat w d off l)
theorem At.keep {w w' : World} {d : Nat} {A : Option Addr} {cap : Nat} {l : List Pc} {T : Nat → Prop} (h : At w d A cap l) (hf : Fr T w w') (h1 : l ≠ [] → ¬ T d) : At w' d A cap l :=
  ⟨h.1, h.2.1, fun hl => by obtain ⟨off, e, hd⟩ := h.2.2 hl; exact ⟨off, e, hd.keep hf (h1 hl)⟩⟩
/-- a walk in block b: what is to be read of two deltas, and a row of the call's own -/
structure WK (w0 : World) (B1 b d1 d2 : Nat) (f : Bool) (X Y O : List Pc) (A : Option Addr) (c : Nat) (w : World) : Prop where
  h : ∃ A1 c1 A2 c2, w.heap[b]? = some (wkObj A1 X.length c1 A2 Y.length c2 f A O.length c) ∧ At w d1 A1 c1 X ∧ At w d2 A2 c2 Y
  o : w.ownsRow B1 31 3 (.slice A O.length c) O.length (pcE.flat O)
  bl : Below w0.heap.size w0 w
  sx : X ≠ [] → w0.heap.size ≤ d1 ∧ d1 < b
  sy : Y ≠ [] → w0.heap.size ≤ d2 ∧ d2 < b
  sd : X ≠ [] → Y ≠ [] → d1 ≠ d2
  s : w0.heap.size ≤ b ∧ b < B1 ∧ B1 ≤ w.heap.size
theorem WK.ext {w0 : World} {B1 b d1 d2 : Nat} {f : Bool} {X Y O : List Pc} {A : Option Addr} {c : Nat} {w w' : World} (h : WK w0 B1 b d1 d2 f X Y O A c w) (hb : Below w.heap.size w w') : WK w0 B1 b d1 d2 f X Y O A c w' := by
  obtain ⟨⟨A1, c1, A2, c2, e, hx, hy⟩, o, b', sx, sy, sd, s⟩ := h
  have := hb.size
  have hf := Fr.of_below (T := fun _ => False) hb
  exact ⟨⟨A1, c1, A2, c2, (hf.block _ (heap_lt e) id).trans e, hx.keep hf (fun _ => id), hy.keep hf (fun _ => id)⟩, own_keepB o hf (fun _ _ h => h.elim), b'.trans (hb.mono b'.size), sx, sy, sd, by omega⟩
theorem WK.cells {w0 : World} {B1 b d1 d2 : Nat} {f : Bool} {X Y O : List Pc} {A : Option Addr} {c : Nat} {w : World} (h : WK w0 B1 b d1 d2 f X Y O A c w) :
    ∃ A1 c1 A2 c2, b < w.heap.size ∧ w.cell? ⟨b, 0, none⟩ = some (.slice A1 X.length c1) ∧ w.cell? ⟨b, 1, none⟩ = some (.slice A2 Y.length c2) ∧ w.cell? ⟨b, 2, none⟩ = some (.bool f) ∧
      w.cell? ⟨b, 3, none⟩ = some (.slice A O.length c) ∧ (∀ o, w.frozen? ⟨b, o, none⟩ = false) ∧ At w d1 A1 c1 X ∧ At w d2 A2 c2 Y := by
  obtain ⟨A1, c1, A2, c2, e, hx, hy⟩ := h.h
  exact ⟨A1, c1, A2, c2, heap_lt e, by rw [Lib.cell_of_heap e]; rfl, by rw [Lib.cell_of_heap e]; rfl, by rw [Lib.cell_of_heap e]; rfl, by rw [Lib.cell_of_heap e]; rfl, fun o => Lib.frozen_of_heap e o, hx, hy⟩

set_option maxHeartbeats 1000000 in
theorem kind_any (d : Nat) (A : Option Addr) (cap : Nat) (l : List Pc) (w : World) (h : At w d A cap l) :
    Calls Try.prog 115 #[.slice A l.length cap] w fun e w' => e = .returned (.int .u8 (kd l)) ∧ w' = w := by
  obtain ⟨q1, q2, q3⟩ := h
  cases l with
  | nil =>
    clear q1 q2 q3
    go_enter Try.func115, Try.ntmps115
    go_wp2
    go_ret
    exact ⟨rfl, rfl⟩
  | cons p r =>
    obtain ⟨off, rfl, hd⟩ := q3 (by simp)
    obtain ⟨hlt2, d0, d1, d2⟩ := hd.cell
    rw [List.length_cons]
    have hn : (0 : Int) < ((r.length + 1 : Nat) : Int) := by omega
    have hn' : 0 < r.length + 1 := by omega
    have hz : (((r.length + 1 : Nat) : Int) == 0) = false := by rw [beq_eq_false_iff_ne]; omega
    show Calls _ _ _ _ fun e w' => e = .returned (.int .u8 p.k) ∧ w' = w
    clear q1 q2 q3 hd
    generalize r.length + 1 = n at *
    go_enter Try.func115, Try.ntmps115
    go_wp2
    go_ret
    exact ⟨rfl, rfl⟩

/-- a piece behind the result -/
theorem WK.app {w0 : World} {B1 b d1 d2 : Nat} {f : Bool} {X Y O O' : List Pc} {A A' : Option Addr} {c c' : Nat} {w w' : World} (h : WK w0 B1 b d1 d2 f X Y O A c w)
    (ho : w'.ownsRow B1 31 3 (.slice A' O'.length c') O'.length (pcE.flat O')) (hg : w.grownBy w' (Value.slice A O.length c).ownBlock) :
    w'.cell? ⟨b, 3, none⟩ = some (.slice A O.length c) ∧ b < w'.heap.size ∧ (∀ o, w'.frozen? ⟨b, o, none⟩ = false) ∧ WK w0 B1 b d1 d2 f X Y O' A' c' (w'.setCell ⟨b, 3, none⟩ (.slice A' O'.length c')) := by
  obtain ⟨⟨A1, c1, A2, c2, e, hx, hy⟩, o, b', sx, sy, sd, s⟩ := h
  have hf := Fr.of_grown hg
  have := hf.size
  have hk : ∀ k, some k = (Value.slice A O.length c).ownBlock → B1 ≤ k := fun k hk => (o.lt k hk.symm).1
  have e' := (hf.block b (heap_lt e) (fun h => by have := hk _ h; omega)).trans e
  have hs := Fr.setCell (fun k => k = b) w' ⟨b, 3, none⟩ (.slice A' O'.length c') rfl
  have hs2 := hs.size
  refine ⟨by rw [Lib.cell_of_heap e']; rfl, heap_lt e', fun o => Lib.frozen_of_heap e' o, ⟨⟨A1, c1, A2, c2, ?_, ?_, ?_⟩, ?_, ?_, sx, sy, sd, by omega⟩⟩
  · have := set_at e' 3 (.slice A' O'.length c')
    rw [this]
    rfl
  · exact (hx.keep hf (fun hl hh => by have := hk _ hh; have := sx hl; omega)).keep hs (fun hl hh => by have := sx hl; omega)
  · exact (hy.keep hf (fun hl hh => by have := hk _ hh; have := sy hl; omega)).keep hs (fun hl hh => by have := sy hl; omega)
  · exact own_keepB ho hs (fun g hg hh => by have := (ho.lt g hg).1; omega)
  · exact (b'.trans (hf.below b'.size (fun k hh => by have := hk _ hh; omega))).trans (hs.below (by omega) (fun k hh => by omega))

set_option maxHeartbeats 2000000 in
set_option maxRecDepth 100000 in
theorem put_any {w0 : World} {B1 b d1 d2 : Nat} {f : Bool} {X Y O : List Pc} {A : Option Addr} {c : Nat} (p : Pc) (w : World) (h : WK w0 B1 b d1 d2 f X Y O A c w) (hl : O.length ≤ 100000) :
    Calls Try.prog 116 #[.pointer (some ⟨b, 0, none⟩), .int .u8 p.k, .int .i64 p.n, .string ⟨p.t.toArray⟩] w fun e w' => e = .returned (.tuple #[]) ∧ ∃ A' c', WK w0 B1 b d1 d2 f X Y (O ++ [p]) A' c' w' := by
  obtain ⟨i0, hi, hz0, hz1, hz2⟩ := info_parts infoPiece
  obtain ⟨A1, c1, A2, c2, hlt, e0, e1, e2, e3, fz, -, -⟩ := h.cells
  have hs := h.s
  have H := Lib.hid h
  clear h
  go_enter Try.func116, Try.ntmps116
  go_wp2_with (at_builtin; refine Hid.out ?_)
  refine Lib.hid ?_
  refine wpListB_append _ rfl (.tmp 12) (.tmp 17) 22 22 rfl B1 (by simp; omega) 31 i0 _ 3 32 Try.underlying22 hi hz0 hz1 hz2 rfl (by decide) _ _ _ rfl ((H.out.ext (bal (Below.refl _ _))).o) _ 1 _ rfl (src_one pcE Try.underlying22 (off := 0) p _ (new_cells _ _ _)) (by unfold maxLen; omega) (by omega) ?_
  intro A8 c8 w8 hown8 hg8 _ _
  obtain ⟨k1, k2, k3, k4⟩ := WK.app (O' := O ++ [p]) (A' := A8) (c' := c8) (H.out.ext (bal (Below.refl _ _))) (by rw [List.length_append, pcE.flat_append]; exact hown8) hg8
  have K4 := Lib.hid k4
  clear hown8 hg8 k4 H e0 e1 e2 e3 fz hlt
  rw [List.length_append, List.length_singleton] at K4
  go_wp2
  exact bodyPost_end (results_none rfl _ _ _) rfl ⟨rfl, A8, c8, by have := K4.out; simpa using this⟩

open Go.RowKit

theorem dat_setN {w : World} {d off : Nat} {p : Pc} {r : List Pc} (h : Dat w d off (p :: r)) (m : Int) : Dat (w.setCell ⟨d, off + 1, none⟩ (.int .i64 m)) d off (⟨p.k, m, p.t⟩ :: r) := by
  obtain ⟨cs, hd, hc⟩ := h
  refine ⟨_, set_at hd (off + 1) (.int .i64 m), fun i j x u hx hu => ?_⟩
  have hj : j < 3 := by
    have := (List.getElem?_eq_some_iff.1 hu).1
    rwa [show (pcE.cells x).length = 3 from pcE.len x] at this
  have hsz : off + 2 < cs.size := (Array.getElem?_eq_some_iff.1 (hc 0 2 p _ rfl rfl)).1
  rw [Array.getElem?_setIfInBounds]
  by_cases e : off + 1 = off + (i * 3 + j)
  · rw [if_pos e, if_pos (by omega)]
    obtain ⟨rfl, rfl⟩ : i = 0 ∧ j = 1 := by omega
    obtain rfl : _ = x := by simpa using hx
    simpa [pcE, Pc.cells] using hu
  · rw [if_neg e]
    cases i with
    | zero =>
      obtain rfl : _ = x := by simpa using hx
      refine hc 0 j p u rfl ?_
      match j, hj, e, hu with
      | 0, _, _, hu => simpa [pcE, Pc.cells] using hu
      | 1, _, e, _ => exact absurd rfl e
      | 2, _, _, hu => simpa [pcE, Pc.cells] using hu
    | succ i => exact hc (i + 1) j x u (by simpa using hx) hu
theorem Dat.lt {w : World} {d off : Nat} {l : List Pc} (h : Dat w d off l) : d < w.heap.size := by
  obtain ⟨cs, hd, -⟩ := h
  exact heap_lt hd
theorem Dat.fz {w : World} {d off : Nat} {l : List Pc} (h : Dat w d off l) (o : Nat) : w.frozen? ⟨d, o, none⟩ = false := by
  obtain ⟨cs, hd, -⟩ := h
  exact Lib.frozen_of_heap hd o

/-- where a list begins behind its first piece -/
def tailA (d off cap : Nat) : Option Addr := if cap = 1 then some ⟨d, off, none⟩ else some ⟨d, off + 3, none⟩
theorem at_tail {w : World} {d off cap : Nat} {p : Pc} {r : List Pc} (hd : Dat w d off (p :: r)) (hc : r.length + 1 ≤ cap) (hm : cap ≤ maxLen) : At w d (tailA d off cap) (cap - 1) r := by
  refine ⟨by omega, by omega, fun hr => ⟨off + 3, ?_, hd.tail⟩⟩
  have : 0 < r.length := List.length_pos_iff.2 hr
  rw [tailA, if_neg (by omega)]
def pObj (p : Pc) : Obj := .cells #[.int .u8 p.k, .int .i64 p.n, .string ⟨p.t.toArray⟩] 31 (0, 0)

set_option maxHeartbeats 2000000 in
set_option maxRecDepth 100000 in
theorem take_whole (b j d off cap : Nat) (p : Pc) (r : List Pc) (n : Int) (w : World) (c0 : w.cell? ⟨b, j, none⟩ = some (.slice (some ⟨d, off, none⟩) (r.length + 1) cap)) (fz : w.frozen? ⟨b, j, none⟩ = false) (hlt : b < w.heap.size)
    (hd : Dat w d off (p :: r)) (h : p.k = 2 ∨ (p.k ≠ 2 ∧ p.n ≤ n)) :
    Calls Try.prog 117 #[.pointer (some ⟨b, j, none⟩), .int .i64 n] w fun e' w' => e' = .returned p.v ∧ w' = ((w.setCell ⟨b, j, none⟩ (.slice (tailA d off cap) r.length (cap - 1))).alloc (pObj p)).alloc (pObj p) := by
  obtain ⟨hlt2, d0, d1, d2⟩ := hd.cell
  have hn : (0 : Int) < ((r.length + 1 : Nat) : Int) := by omega
  have hn' : 0 < r.length + 1 := by omega
  have hn2 : (1 : Int) ≤ ((r.length + 1 : Nat) : Int) := by omega
  have hn3 : 1 ≤ r.length + 1 := by omega
  have hr1 : r.length + 1 - 1 = r.length := by omega
  clear hd
  unfold Pc.v tailA
  rcases h with h | ⟨h, h2⟩
  · have hk : (p.k == 2) = true := by rw [h]; rfl
    clear h
    by_cases hc1 : cap = 1
    · subst hc1
      rw [if_pos rfl]
      go_enter Try.func117, Try.ntmps117
      go_wp2
      exact bodyPost_ret (v := .agg #[.int .u8 p.k, .int .i64 p.n, .string ⟨p.t.toArray⟩]) (by simp [results, Try.f117, go_sem]) rfl ⟨rfl, rfl⟩
    · rw [if_neg hc1]
      go_enter Try.func117, Try.ntmps117
      go_wp2
      exact bodyPost_ret (v := .agg #[.int .u8 p.k, .int .i64 p.n, .string ⟨p.t.toArray⟩]) (by simp [results, Try.f117, go_sem]) rfl ⟨rfl, rfl⟩
  · have hk : (p.k == 2) = false := by rw [beq_eq_false_iff_ne]; exact h
    clear h
    by_cases hc1 : cap = 1
    · subst hc1
      rw [if_pos rfl]
      go_enter Try.func117, Try.ntmps117
      go_wp2
      exact bodyPost_ret (v := .agg #[.int .u8 p.k, .int .i64 p.n, .string ⟨p.t.toArray⟩]) (by simp [results, Try.f117, go_sem]) rfl ⟨rfl, rfl⟩
    · rw [if_neg hc1]
      go_enter Try.func117, Try.ntmps117
      go_wp2
      exact bodyPost_ret (v := .agg #[.int .u8 p.k, .int .i64 p.n, .string ⟨p.t.toArray⟩]) (by simp [results, Try.f117, go_sem]) rfl ⟨rfl, rfl⟩

set_option maxHeartbeats 2000000 in
set_option maxRecDepth 100000 in
theorem take_cut (b j d off cap : Nat) (p : Pc) (r : List Pc) (n : Int) (w : World) (c0 : w.cell? ⟨b, j, none⟩ = some (.slice (some ⟨d, off, none⟩) (r.length + 1) cap)) (hlt : b < w.heap.size)
    (hd : Dat w d off (p :: r)) (h : p.k ≠ 2) (h0 : 0 ≤ n) (h1 : n < p.n) (h2 : p.n ≤ 1048576) :
    Calls Try.prog 117 #[.pointer (some ⟨b, j, none⟩), .int .i64 n] w fun e' w' => e' = .returned (⟨p.k, n, []⟩ : Pc).v ∧ w' = (w.setCell ⟨d, off + 1, none⟩ (.int .i64 (p.n - n))).alloc (pObj ⟨p.k, n, []⟩) := by
  obtain ⟨hlt2, d0, d1, d2⟩ := hd.cell
  have fzd := hd.fz
  have hn : (0 : Int) < ((r.length + 1 : Nat) : Int) := by omega
  have hn' : 0 < r.length + 1 := by omega
  have hk : (p.k == 2) = false := by rw [beq_eq_false_iff_ne]; exact h
  have hg : decide (p.n ≤ n) = false := decide_eq_false (by omega)
  have hw : IntKind.i64.wrap (p.n - n) = p.n - n := IntWalk.i64_in _ (by omega)
  clear hd h
  unfold Pc.v
  go_enter Try.func117, Try.ntmps117
  go_wp2
  exact bodyPost_ret (v := .agg #[.int .u8 p.k, .int .i64 n, .string ⟨([] : List UInt8).toArray⟩]) (by simp [results, Try.f117, go_sem]) rfl ⟨rfl, rfl⟩

open Go.RowKit

/-- a walk in block b, with the addresses of its lists -/
structure WE (w0 : World) (B1 b d1 d2 : Nat) (f : Bool) (X Y O : List Pc) (A1 : Option Addr) (c1 : Nat) (A2 : Option Addr) (c2 : Nat) (A : Option Addr) (c : Nat) (w : World) : Prop where
  e : w.heap[b]? = some (wkObj A1 X.length c1 A2 Y.length c2 f A O.length c)
  x : At w d1 A1 c1 X
  y : At w d2 A2 c2 Y
  o : w.ownsRow B1 31 3 (.slice A O.length c) O.length (pcE.flat O)
  bl : Below w0.heap.size w0 w
  sx : X ≠ [] → w0.heap.size ≤ d1 ∧ d1 < b
  sy : Y ≠ [] → w0.heap.size ≤ d2 ∧ d2 < b
  sd : X ≠ [] → Y ≠ [] → d1 ≠ d2
  s : w0.heap.size ≤ b ∧ b < B1 ∧ B1 ≤ w.heap.size
section
variable {w0 : World} {B1 b d1 d2 : Nat} {f : Bool} {X Y O : List Pc} {A1 : Option Addr} {c1 : Nat} {A2 : Option Addr} {c2 : Nat} {A : Option Addr} {c : Nat} {w w' : World}
theorem WE.wk (h : WE w0 B1 b d1 d2 f X Y O A1 c1 A2 c2 A c w) : WK w0 B1 b d1 d2 f X Y O A c w := ⟨⟨A1, c1, A2, c2, h.e, h.x, h.y⟩, h.o, h.bl, h.sx, h.sy, h.sd, h.s⟩
theorem WK.we (h : WK w0 B1 b d1 d2 f X Y O A c w) : ∃ A1 c1 A2 c2, WE w0 B1 b d1 d2 f X Y O A1 c1 A2 c2 A c w := by
  obtain ⟨⟨A1, c1, A2, c2, e, x, y⟩, o, bl, sx, sy, sd, s⟩ := h
  exact ⟨A1, c1, A2, c2, e, x, y, o, bl, sx, sy, sd, s⟩
theorem WE.ext (h : WE w0 B1 b d1 d2 f X Y O A1 c1 A2 c2 A c w) (hb : Below w.heap.size w w') : WE w0 B1 b d1 d2 f X Y O A1 c1 A2 c2 A c w' := by
  obtain ⟨e, hx, hy, o, b', sx, sy, sd, s⟩ := h
  have := hb.size
  have hf := Fr.of_below (T := fun _ => False) hb
  exact ⟨(hf.block _ (heap_lt e) id).trans e, hx.keep hf (fun _ => id), hy.keep hf (fun _ => id), own_keepB o hf (fun _ _ h => h.elim), b'.trans (hb.mono b'.size), sx, sy, sd, by omega⟩
theorem WE.alloc (h : WE w0 B1 b d1 d2 f X Y O A1 c1 A2 c2 A c w) (o : Obj) : WE w0 B1 b d1 d2 f X Y O A1 c1 A2 c2 A c (w.alloc o) := h.ext (bal (Below.refl _ _))
theorem WE.drew (h : WE w0 B1 b d1 d2 f X Y O A1 c1 A2 c2 A c w) : WE w0 B1 b d1 d2 f X Y O A1 c1 A2 c2 A c w.drew := h.ext (bdr (Below.refl _ _))
theorem WE.cells (h : WE w0 B1 b d1 d2 f X Y O A1 c1 A2 c2 A c w) :
    b < w.heap.size ∧ w.cell? ⟨b, 0, none⟩ = some (.slice A1 X.length c1) ∧ w.cell? ⟨b, 1, none⟩ = some (.slice A2 Y.length c2) ∧ w.cell? ⟨b, 2, none⟩ = some (.bool f) ∧
      w.cell? ⟨b, 3, none⟩ = some (.slice A O.length c) ∧ (∀ o, w.frozen? ⟨b, o, none⟩ = false) := by
  have e := h.e
  exact ⟨heap_lt e, by rw [Lib.cell_of_heap e]; rfl, by rw [Lib.cell_of_heap e]; rfl, by rw [Lib.cell_of_heap e]; rfl, by rw [Lib.cell_of_heap e]; rfl, fun o => Lib.frozen_of_heap e o⟩
/-- behind a whole piece -/
theorem WE.takeX {p : Pc} {x : List Pc} {off : Nat} (h : WE w0 B1 b d1 d2 f (p :: x) Y O (some ⟨d1, off, none⟩) c1 A2 c2 A c w) :
    WE w0 B1 b d1 d2 f x Y O (tailA d1 off c1) (c1 - 1) A2 c2 A c (w.setCell ⟨b, 0, none⟩ (.slice (tailA d1 off c1) x.length (c1 - 1))) := by
  obtain ⟨e, ⟨q1, q2, q3⟩, hy, o, bl, sx, sy, sd, s⟩ := h
  obtain ⟨off', eo, hd⟩ := q3 (by simp)
  injection eo with eo
  injection eo with _ eo
  subst eo
  have s1 := sx (by simp)
  rw [List.length_cons] at q1
  have hs := Fr.setCell (fun k => k = b) w ⟨b, 0, none⟩ (.slice (tailA d1 off c1) x.length (c1 - 1)) rfl
  have hs2 := hs.size
  refine ⟨?_, (at_tail hd q1 q2).keep hs (fun _ hh => by omega), hy.keep hs (fun hl hh => by have := sy hl; omega), own_keepB o hs (fun g hg hh => by have := (o.lt g hg).1; omega), bl.trans (hs.below bl.size (fun k hh => by omega)), fun _ => s1, sy, fun _ hl => sd (by simp) hl, by omega⟩
  have := set_at e 0 (.slice (tailA d1 off c1) x.length (c1 - 1))
  rw [this]
  rfl
theorem WE.takeY {q : Pc} {y : List Pc} {off : Nat} (h : WE w0 B1 b d1 d2 f X (q :: y) O A1 c1 (some ⟨d2, off, none⟩) c2 A c w) :
    WE w0 B1 b d1 d2 f X y O A1 c1 (tailA d2 off c2) (c2 - 1) A c (w.setCell ⟨b, 1, none⟩ (.slice (tailA d2 off c2) y.length (c2 - 1))) := by
  obtain ⟨e, hx, ⟨q1, q2, q3⟩, o, bl, sx, sy, sd, s⟩ := h
  obtain ⟨off', eo, hd⟩ := q3 (by simp)
  injection eo with eo
  injection eo with _ eo
  subst eo
  have s1 := sy (by simp)
  rw [List.length_cons] at q1
  have hs := Fr.setCell (fun k => k = b) w ⟨b, 1, none⟩ (.slice (tailA d2 off c2) y.length (c2 - 1)) rfl
  have hs2 := hs.size
  refine ⟨?_, hx.keep hs (fun hl hh => by have := sx hl; omega), (at_tail hd q1 q2).keep hs (fun _ hh => by omega), own_keepB o hs (fun g hg hh => by have := (o.lt g hg).1; omega), bl.trans (hs.below bl.size (fun k hh => by omega)), sx, fun _ => s1, fun hl _ => sd hl (by simp), by omega⟩
  have := set_at e 1 (.slice (tailA d2 off c2) y.length (c2 - 1))
  rw [this]
  rfl
/-- within a piece -/
theorem WE.cutX {p : Pc} {x : List Pc} {off : Nat} (h : WE w0 B1 b d1 d2 f (p :: x) Y O (some ⟨d1, off, none⟩) c1 A2 c2 A c w) (m : Int) :
    WE w0 B1 b d1 d2 f (⟨p.k, m, p.t⟩ :: x) Y O (some ⟨d1, off, none⟩) c1 A2 c2 A c (w.setCell ⟨d1, off + 1, none⟩ (.int .i64 m)) := by
  obtain ⟨e, ⟨q1, q2, q3⟩, hy, o, bl, sx, sy, sd, s⟩ := h
  obtain ⟨off', eo, hd⟩ := q3 (by simp)
  injection eo with eo
  injection eo with _ eo
  subst eo
  have s1 := sx (by simp)
  have hs := Fr.setCell (fun k => k = d1) w ⟨d1, off + 1, none⟩ (.int .i64 m) rfl
  have hs2 := hs.size
  exact ⟨(hs.block b (heap_lt e) (fun hh => by omega)).trans e, ⟨q1, q2, fun _ => ⟨off, rfl, dat_setN hd m⟩⟩, hy.keep hs (fun hl hh => sd (by simp) hl hh.symm), own_keepB o hs (fun g hg hh => by have := (o.lt g hg).1; omega), bl.trans (hs.below bl.size (fun k hh => by omega)), fun _ => s1, sy, fun _ hl => sd (by simp) hl, by omega⟩
theorem WE.cutY {q : Pc} {y : List Pc} {off : Nat} (h : WE w0 B1 b d1 d2 f X (q :: y) O A1 c1 (some ⟨d2, off, none⟩) c2 A c w) (m : Int) :
    WE w0 B1 b d1 d2 f X (⟨q.k, m, q.t⟩ :: y) O A1 c1 (some ⟨d2, off, none⟩) c2 A c (w.setCell ⟨d2, off + 1, none⟩ (.int .i64 m)) := by
  obtain ⟨e, hx, ⟨q1, q2, q3⟩, o, bl, sx, sy, sd, s⟩ := h
  obtain ⟨off', eo, hd⟩ := q3 (by simp)
  injection eo with eo
  injection eo with _ eo
  subst eo
  have s1 := sy (by simp)
  have hs := Fr.setCell (fun k => k = d2) w ⟨d2, off + 1, none⟩ (.int .i64 m) rfl
  have hs2 := hs.size
  exact ⟨(hs.block b (heap_lt e) (fun hh => by omega)).trans e, hx.keep hs (fun hl hh => sd hl (by simp) hh), ⟨q1, q2, fun _ => ⟨off, rfl, dat_setN hd m⟩⟩, own_keepB o hs (fun g hg hh => by have := (o.lt g hg).1; omega), bl.trans (hs.below bl.size (fun k hh => by omega)), sx, fun _ => s1, fun hl _ => sd hl (by simp), by omega⟩
/-- a cell of a new block -/
theorem WE.store (h : WE w0 B1 b d1 d2 f X Y O A1 c1 A2 c2 A c w) (g o : Nat) (v : Value) (hg : B1 ≤ g) (ho : ∀ k, (Value.slice A O.length c).ownBlock = some k → k < g) : WE w0 B1 b d1 d2 f X Y O A1 c1 A2 c2 A c (w.setCell ⟨g, o, none⟩ v) := by
  obtain ⟨e, hx, hy, o', bl, sx, sy, sd, s⟩ := h
  have hs := Fr.setCell (fun k => k = g) w ⟨g, o, none⟩ v rfl
  have hs2 := hs.size
  exact ⟨(hs.block b (heap_lt e) (fun hh => by omega)).trans e, hx.keep hs (fun hl hh => by have := sx hl; omega), hy.keep hs (fun hl hh => by have := sy hl; omega), own_keepB o' hs (fun k hk hh => by have := ho k hk; omega), bl.trans (hs.below bl.size (fun k hh => by omega)), sx, sy, sd, by omega⟩
end
def fT : Value := .func (.func 86) #[] #[]
def fB : Value := .func (.func 118) #[] #[]

set_option maxHeartbeats 4000000 in
set_option maxRecDepth 100000 in
theorem texts_N {w0 : World} {B1 b d1 d2 : Nat} {f : Bool} {X Y O : List Pc} {A : Option Addr} {c : Nat} (w : World) (h : WK w0 B1 b d1 d2 f X Y O A c w) (hx : kd X ≠ 2) (hy : kd Y ≠ 2) :
    Calls Try.prog 86 #[.pointer (some ⟨b, 0, none⟩)] w fun e w' => e = .returned fB ∧ WK w0 B1 b d1 d2 f X Y O A c w' := by
  obtain ⟨A1, c1, A2, c2, h⟩ := h.we
  obtain ⟨hlt, e0, e1, e2, e3, fz⟩ := h.cells
  have kx := fun n => kind_any d1 A1 c1 X (w.drewN n) h.x
  have ky := fun n => kind_any d2 A2 c2 Y (w.drewN n) h.y
  have hx' : (kd X == 2) = false := by rw [beq_eq_false_iff_ne]; exact hx
  have hy' : (kd Y == 2) = false := by rw [beq_eq_false_iff_ne]; exact hy
  have KX := Lib.hid kx; have KY := Lib.hid ky; have H := Lib.hid h
  clear kx ky h hx hy
  generalize kd X = kX at *
  generalize kd Y = kY at *
  go_enter Try.func86, Try.ntmps86
  go_wp2_with fail
  go_quiet (first | (go_at_call_of 115 (Value.slice A1 X.length c1); exact Calls.quiet_of_same (KX.out _)) | (go_at_call_of 115 (Value.slice A2 Y.length c2); exact Calls.quiet_of_same (KY.out _)))
  have C1 := Lib.hid (H.out.ext (below_drewN (Below.refl _ _) nq))
  clear H KX KY e0 e1 e2 e3 fz hlt
  generalize w.drewN nq = w1 at *
  obtain ⟨hlt, e0, e1, e2, e3, fz⟩ := C1.out.cells
  go_wp2
  go_ret
  exact ⟨rfl, C1.out.wk⟩

end Go.Proofs.Ytdlbjfgpfjcpaaa
