/- transform's kind, put, take: the steps of a walk over two deltas. Condition: the walk lies in its block. -/
import Derived.Test.YtdlbjfgpfjcpaaaTake2
import Derived.Test.YtdlbjfgpfjcpaaaJoined7
import Derived.Test.YtdlbjfgpfjcpaaaPair7
namespace Go.Proofs.Ytdlbjfgpfjcpaaa
open Go.RowKit

def wkObj (A1 : Option Addr) (n1 c1 : Nat) (A2 : Option Addr) (n2 c2 : Nat) (f : Bool) (A3 : Option Addr) (n3 c3 : Nat) : Obj :=
  .cells #[.slice A1 n1 c1, .slice A2 n2 c2, .bool f, .slice A3 n3 c3] 93 (0, 0)
/-- a list that lies in a row of block d, from somewhere on -/
def At (w : World) (d : Nat) (A : Option Addr) (cap : Nat) (l : List Pc) : Prop := l.length ≤ cap ∧ cap ≤ maxLen ∧ (l ≠ [] → ∃ off, A = some ⟨d, off, none⟩ ∧ Dat w d off l)
theorem At.keep {w w' : World} {d : Nat} {A : Option Addr} {cap : Nat} {l : List Pc} {T : Nat → Prop} (h : At w d A cap l) (hf : Fr T w w') (h1 : l ≠ [] → ¬ T d) : At w' d A cap l :=
  ⟨h.1, h.2.1, fun hl => by obtain ⟨off, e, hd⟩ := h.2.2 hl; exact ⟨off, e, hd.keep hf (h1 hl)⟩⟩
/-- a walk in block b: what is to be read of two deltas, and a row of the call's own -/
structure WK (w0 : World) (B1 b d1 d2 : Nat) (f : Bool) (X Y O : List Pc) (A : Option Addr) (c : Nat) (w : World) : Prop where
  h : ∃ A1 c1 A2 c2, w.heap[b]? = some (wkObj A1 X.length c1 A2 Y.length c2 f A O.length c) ∧ At w d1 A1 c1 X ∧ At w d2 A2 c2 Y
  o : w.ownsRow B1 31 3 (.slice A O.length c) O.length (pcE.flat O)
  bl : Below w0.heap.size w0 w
  sx : X ≠ [] → w0.heap.size ≤ d1 ∧ d1 < b
  sy : Y ≠ [] → w0.heap.size ≤ d2 ∧ d2 < b
  sd : X ≠ [] → Y ≠ [] → d1 ≠ d2
  s : w0.heap.size ≤ b ∧ b < B1 ∧ B1 ≤ w.heap.size
theorem WK.ext {w0 : World} {B1 b d1 d2 : Nat} {f : Bool} {X Y O : List Pc} {A : Option Addr} {c : Nat} {w w' : World} (h : WK w0 B1 b d1 d2 f X Y O A c w) (hb : Below w.heap.size w w') : WK w0 B1 b d1 d2 f X Y O A c w' := by
  obtain ⟨⟨A1, c1, A2, c2, e, hx, hy⟩, o, b', sx, sy, sd, s⟩ := h
  have := hb.size
  have hf := Fr.of_below (T := fun _ => False) hb
  exact ⟨⟨A1, c1, A2, c2, (hf.block _ (heap_lt e) id).trans e, hx.keep hf (fun _ => id), hy.keep hf (fun _ => id)⟩, own_keepB o hf (fun _ _ h => h.elim), b'.trans (hb.mono b'.size), sx, sy, sd, by omega⟩
theorem WK.cells {w0 : World} {B1 b d1 d2 : Nat} {f : Bool} {X Y O : List Pc} {A : Option Addr} {c : Nat} {w : World} (h : WK w0 B1 b d1 d2 f X Y O A c w) :
    ∃ A1 c1 A2 c2, b < w.heap.size ∧ w.cell? ⟨b, 0, none⟩ = some (.slice A1 X.length c1) ∧ w.cell? ⟨b, 1, none⟩ = some (.slice A2 Y.length c2) ∧ w.cell? ⟨b, 2, none⟩ = some (.bool f) ∧
      w.cell? ⟨b, 3, none⟩ = some (.slice A O.length c) ∧ (∀ o, w.frozen? ⟨b, o, none⟩ = false) ∧ At w d1 A1 c1 X ∧ At w d2 A2 c2 Y := by
  obtain ⟨A1, c1, A2, c2, e, hx, hy⟩ := h.h
  exact ⟨A1, c1, A2, c2, heap_lt e, by rw [Lib.cell_of_heap e]; rfl, by rw [Lib.cell_of_heap e]; rfl, by rw [Lib.cell_of_heap e]; rfl, by rw [Lib.cell_of_heap e]; rfl, fun o => Lib.frozen_of_heap e o, hx, hy⟩

set_option maxHeartbeats 1000000 in
theorem kind_any (d : Nat) (A : Option Addr) (cap : Nat) (l : List Pc) (w : World) (h : At w d A cap l) :
    Calls Try.prog 115 #[.slice A l.length cap] w fun e w' => e = .returned (.int .u8 (kd l)) ∧ w' = w := by
  obtain ⟨q1, q2, q3⟩ := h
  cases l with
  | nil =>
    clear q1 q2 q3
    go_enter Try.func115, Try.ntmps115
    go_wp2
    go_ret
    exact ⟨rfl, rfl⟩
  | cons p r =>
    obtain ⟨off, rfl, hd⟩ := q3 (by simp)
    obtain ⟨hlt2, d0, d1, d2⟩ := hd.cell
    rw [List.length_cons]
    have hn : (0 : Int) < ((r.length + 1 : Nat) : Int) := by omega
    have hn' : 0 < r.length + 1 := by omega
    have hz : (((r.length + 1 : Nat) : Int) == 0) = false := by rw [beq_eq_false_iff_ne]; omega
    show Calls _ _ _ _ fun e w' => e = .returned (.int .u8 p.k) ∧ w' = w
    clear q1 q2 q3 hd
    generalize r.length + 1 = n at *
    go_enter Try.func115, Try.ntmps115
    go_wp2
    go_ret
    exact ⟨rfl, rfl⟩

/-- a piece behind the result -/
theorem WK.app {w0 : World} {B1 b d1 d2 : Nat} {f : Bool} {X Y O O' : List Pc} {A A' : Option Addr} {c c' : Nat} {w w' : World} (h : WK w0 B1 b d1 d2 f X Y O A c w)
    (ho : w'.ownsRow B1 31 3 (.slice A' O'.length c') O'.length (pcE.flat O')) (hg : w.grownBy w' (Value.slice A O.length c).ownBlock) :
    w'.cell? ⟨b, 3, none⟩ = some (.slice A O.length c) ∧ b < w'.heap.size ∧ (∀ o, w'.frozen? ⟨b, o, none⟩ = false) ∧ WK w0 B1 b d1 d2 f X Y O' A' c' (w'.setCell ⟨b, 3, none⟩ (.slice A' O'.length c')) := by
  obtain ⟨⟨A1, c1, A2, c2, e, hx, hy⟩, o, b', sx, sy, sd, s⟩ := h
  have hf := Fr.of_grown hg
  have := hf.size
  have hk : ∀ k, some k = (Value.slice A O.length c).ownBlock → B1 ≤ k := fun k hk => (o.lt k hk.symm).1
  have e' := (hf.block b (heap_lt e) (fun h => by have := hk _ h; omega)).trans e
  have hs := Fr.setCell (fun k => k = b) w' ⟨b, 3, none⟩ (.slice A' O'.length c') rfl
  have hs2 := hs.size
  refine ⟨by rw [Lib.cell_of_heap e']; rfl, heap_lt e', fun o => Lib.frozen_of_heap e' o, ⟨⟨A1, c1, A2, c2, ?_, ?_, ?_⟩, ?_, ?_, sx, sy, sd, by omega⟩⟩
  · have := set_at e' 3 (.slice A' O'.length c')
    rw [this]
    rfl
  · exact (hx.keep hf (fun hl hh => by have := hk _ hh; have := sx hl; omega)).keep hs (fun hl hh => by have := sx hl; omega)
  · exact (hy.keep hf (fun hl hh => by have := hk _ hh; have := sy hl; omega)).keep hs (fun hl hh => by have := sy hl; omega)
  · exact own_keepB ho hs (fun g hg hh => by have := (ho.lt g hg).1; omega)
  · exact (b'.trans (hf.below b'.size (fun k hh => by have := hk _ hh; omega))).trans (hs.below (by omega) (fun k hh => by omega))

set_option maxHeartbeats 2000000 in
set_option maxRecDepth 100000 in
theorem put_any {w0 : World} {B1 b d1 d2 : Nat} {f : Bool} {X Y O : List Pc} {A : Option Addr} {c : Nat} (p : Pc) (w : World) (h : WK w0 B1 b d1 d2 f X Y O A c w) (hl : O.length ≤ 100000) :
    Calls Try.prog 116 #[.pointer (some ⟨b, 0, none⟩), .int .u8 p.k, .int .i64 p.n, .string ⟨p.t.toArray⟩] w fun e w' => e = .returned (.tuple #[]) ∧ ∃ A' c', WK w0 B1 b d1 d2 f X Y (O ++ [p]) A' c' w' := by
  obtain ⟨i0, hi, hz0, hz1, hz2⟩ := info_parts infoPiece
  obtain ⟨A1, c1, A2, c2, hlt, e0, e1, e2, e3, fz, -, -⟩ := h.cells
  have hs := h.s
  have H := Lib.hid h
  clear h
  go_enter Try.func116, Try.ntmps116
  go_wp2_with (at_builtin; refine Hid.out ?_)
  refine Lib.hid ?_
  refine wpListB_append _ rfl (.tmp 12) (.tmp 17) 22 22 rfl B1 (by simp; omega) 31 i0 _ 3 32 Try.underlying22 hi hz0 hz1 hz2 rfl (by decide) _ _ _ rfl ((H.out.ext (bal (Below.refl _ _))).o) _ 1 _ rfl (src_one pcE Try.underlying22 (off := 0) p _ (new_cells _ _ _)) (by unfold maxLen; omega) (by omega) ?_
  intro A8 c8 w8 hown8 hg8 _ _
  obtain ⟨k1, k2, k3, k4⟩ := WK.app (O' := O ++ [p]) (A' := A8) (c' := c8) (H.out.ext (bal (Below.refl _ _))) (by rw [List.length_append, pcE.flat_append]; exact hown8) hg8
  have K4 := Lib.hid k4
  clear hown8 hg8 k4 H e0 e1 e2 e3 fz hlt
  rw [List.length_append, List.length_singleton] at K4
  go_wp2
  exact bodyPost_end (results_none rfl _ _ _) rfl ⟨rfl, A8, c8, by have := K4.out; simpa using this⟩

end Go.Proofs.Ytdlbjfgpfjcpaaa
