/- rope.Pen: what a job that is run makes of the pen. -/
import Derived.Test.YtclmjnobacepjaaGreatTRun
import Derived.Test.YtclmjnobacepjaaGreatJ01
import Derived.Laws.CopyRow
import Derived.Laws.IdiomCopy
import Derived.ArgAppend
import Derived.Lib.AppendZerosOnto
import Derived.Lib.Overlaps
import Derived.Lib.SliceRun
import Derived.Laws.Externs
import Derived.Test.YtclmjnobacepjaaGreatJ07
import Derived.Deep.WholeRow
namespace Go.Proofs.YtclmjnobacepjaaGreat
open Go.RowKit

theorem NdOK.back {G H : Ar} {i : Nat} {x : Nd} (q : NdOK (G ++ H) i x) (hi : i ≤ G.length) : NdOK G i x := by
  rcases q with q | ⟨h, a, b, c, d, e⟩
  · exact .inl q
  · refine .inr ⟨h, a, b, c, fun k hk => ?_, ?_⟩
    · obtain ⟨hk1, y, hy, r⟩ := d k hk
      refine ⟨hk1, y, ?_, r⟩
      rw [List.getElem?_append_left (by omega)] at hy
      exact hy
    · rw [e]
      congr 1
      exact List.map_congr_left fun k hk => txt_app (by have := (d k hk).1; omega)
def rtS (t : TypeId) : Prop := t = 39
theorem PenC.step {w0 : World} {G : Ar} {bp : Nat} {xs : List Nd} {js : List Jb} {rbs : List Nat} {bxs : List (Nat × Nat)} {i : Nat} {N : Nat → Prop} {W W3 : World} (h : PenC w0 G bp xs js rbs bxs i N W) {rb : Nat} (hr : rbs[i]? = some rb) (hk : ∀ b, N b → W3.heap[b]? = W.heap[b]?) (hs : W.heap.size ≤ W3.heap.size) :
    PenC w0 G bp xs js rbs bxs (i + 1) N (W3.setCell ⟨rb, 0, none⟩ (.int .u64 (hd (G.length + i) : Nat))) ∧ KeepN rtS N W (W3.setCell ⟨rb, 0, none⟩ (.int .u64 (hd (G.length + i) : Nat))) := by
  have hin := h.rin i rb hr
  have hrb3 : Bk W3 rb (rbC (G ++ xs) (G.length + i) (G.length + i)) 39 := (hk rb (h.box _ _ hin).1).trans (h.box _ _ hin).2.2
  have hkN : KeepN rtS N W (W3.setCell ⟨rb, 0, none⟩ (.int .u64 (hd (G.length + i) : Nat))) := fun b cur t hb ht q =>
    (show Bk W3 b cur t from (hk b hb).trans q).other (bk_ne (show Bk W3 b cur t from (hk b hb).trans q) hrb3 ht)
  refine ⟨⟨fun b q => ⟨(h.nlt b q).1, ?_⟩, h.jl, h.rl, h.ok, fun m j r x a b c => (h.job m j r x a b c).keep hkN (fun t q => .inr (.inr q)), fun b k q => ⟨(h.box b k q).1, (h.box b k q).2.1, ?_⟩, h.uniq, h.rin, h.fn⟩, hkN⟩
  · rw [World.size_setCell]; exact Nat.lt_of_lt_of_le (h.nlt b q).2 hs
  · have hb3 : Bk W3 b (rbC (G ++ xs) (G.length + i) k) 39 := (hk b (h.box b k q).1).trans (h.box b k q).2.2
    by_cases e : b = rb
    · subst e
      obtain rfl : k = G.length + i := h.fn _ _ _ q hin
      have := hb3.set 0 (.int .u64 (hd (G.length + i) : Nat))
      have e2 : (rbC (G ++ xs) (G.length + i) (G.length + i)).setIfInBounds 0 (.int .u64 (hd (G.length + i) : Nat)) = rbC (G ++ xs) (G.length + (i + 1)) (G.length + i) := by
        unfold rbC
        rw [if_pos (show G.length + i < G.length + (i + 1) by omega)]
        rfl
      rw [e2] at this
      exact this
    · have hne : k ≠ G.length + i := fun e2 => by
        have := h.uniq b k q (by omega)
        rw [e2, Nat.add_sub_cancel_left, hr] at this
        exact e (Option.some.inj this).symm
      have e2 : rbC (G ++ xs) (G.length + (i + 1)) k = rbC (G ++ xs) (G.length + i) k := by
        unfold rbC
        by_cases q : k < G.length + i
        · rw [if_pos q, if_pos (by omega)]
        · rw [if_neg q, if_neg (by omega)]
      rw [e2]
      exact hb3.other e

/-- the pen while jobs are run -/
structure PenR (w0 : World) (A : AF) (G : Ar) (bp : Nat) (xs : List Nd) (js : List Jb) (rbs : List Nat) (bxs : List (Nat × Nat)) (i : Nat) (N : Nat → Prop) (W : World) : Prop where
  fr : FrT (arT A) w0 W
  ar : ArM W A (G ++ xs.take i)
  core : PenC w0 G bp xs js rbs bxs i N W
  nb : N bp
  sz : ∀ x ∈ xs, x.T.length ≤ 65536
  le : G.length + xs.length ≤ 1000
  lt : ∀ k, arT A k → k < w0.heap.size
theorem PenR.ext {w0 : World} {A : AF} {G : Ar} {bp : Nat} {xs : List Nd} {js : List Jb} {rbs : List Nat} {bxs : List (Nat × Nat)} {i : Nat} {N : Nat → Prop} {W W' : World} (h : PenR w0 A G bp xs js rbs bxs i N W) (hb : Below W.heap.size W W') : PenR w0 A G bp xs js rbs bxs i N W' :=
  ⟨h.fr.below hb, h.ar.ext hb, h.core.keep (fun _ _ _ _ _ q => q.ext hb q.lt) hb.size, h.nb, h.sz, h.le, h.lt⟩

theorem job_run {w0 : World} {A : AF} {G : Ar} {bp : Nat} {xs : List Nd} {js : List Jb} {rbs : List Nat} {bxs : List (Nat × Nat)} {i : Nat} {N : Nat → Prop} {w : World} (p : PenR w0 A G bp xs js rbs bxs i N w) {j : Jb} (hj : js[i]? = some j) {v1 v2 : Value} (hb : Bk w bp #[.pointer (some ⟨A.ba, 0, none⟩), v1, v2] 132) :
    Calls Tryz.prog 104 #[.pointer (some ⟨j.p, 0, none⟩), .pointer (some ⟨j.c, 0, none⟩), .pointer (some ⟨j.r, 0, none⟩)] w fun e w' => e = .returned (.tuple #[.int .u64 (hd (G.length + i) : Nat), .int .i64 0]) ∧ PenR w0 A G bp xs js rbs bxs (i + 1) N w' ∧ KeepN rtS N w w' ∧ KeepO (fun b => arT A b ∨ N b) w w' := by
  have hi : i < xs.length := by rw [← p.core.jl]; exact (List.getElem?_eq_some_iff.1 hj).1
  have hx := List.getElem?_eq_getElem hi
  obtain ⟨rb, hrb⟩ : ∃ rb, rbs[i]? = some rb := ⟨_, List.getElem?_eq_getElem (by rw [p.core.rl]; exact hi)⟩
  generalize xs[i] = x at hx
  have hjb := p.core.job i j rb x hj hrb hx
  have hin := p.core.rin i rb hrb
  have hbx := (p.core.box _ _ hin).2.2
  have hnN : ∀ b, N b → ¬ arT A b := fun b q a => by have := p.lt b a; have := (p.core.nlt b q).1; omega
  have hgl : (G ++ xs.take i).length = G.length + i := by rw [List.length_append, List.length_take]; omega
  have hgx : (G ++ xs)[G.length + i]? = some x := by rw [List.getElem?_append_right (by omega), Nat.add_sub_cancel_left]; exact hx
  have hgn : G ++ xs = G ++ xs.take i ++ xs.drop i := by rw [List.append_assoc, List.take_append_drop]
  have hnd : NdOK (G ++ xs.take i) (G ++ xs.take i).length x := by
    have := p.core.ok _ _ hgx
    rw [hgn] at this
    rw [hgl]
    exact this.back (by omega)
  have htk : xs.take (i + 1) = xs.take i ++ [x] := by rw [List.take_add_one, hx]; rfl
  have hsz : x.T.length ≤ 65536 := p.sz x (List.mem_of_getElem? hx)
  have hA : ∀ W' kv, Below w.heap.size w W' → NodeIn (G ++ xs.take i) (G ++ xs.take i).length x kv W' → (∀ g, kv.ownBlock = some g → ¬ arT A g) → Calls Tryz.prog 105 #[.pointer (some ⟨A.ba, 0, none⟩), ndV x kv] W' fun e W'' => e = .returned (.tuple #[.int .u64 (hd (G.length + i) : Nat), .int .i64 0]) ∧ ArM W'' A (G ++ xs.take (i + 1)) ∧ FrT (arT A) W' W'' := fun W' kv hb hN hg => by
    have := alloc_any A (G ++ xs.take i) x kv W' (p.ar.ext hb) (by rw [hgl]; have := p.le; omega) hN hg
    rw [hgl] at this
    rw [htk, ← List.append_assoc]
    exact this
  have hpost : ∀ e w', (e = Ending.returned (.tuple #[.int .u64 (hd (G.length + i) : Nat), .int .i64 0]) ∧ ∃ W3, ArM W3 A (G ++ xs.take (i + 1)) ∧ FrT (arT A) w W3 ∧ w' = W3.setCell ⟨rb, 0, none⟩ (.int .u64 (hd (G.length + i) : Nat))) → e = .returned (.tuple #[.int .u64 (hd (G.length + i) : Nat), .int .i64 0]) ∧ PenR w0 A G bp xs js rbs bxs (i + 1) N w' ∧ KeepN rtS N w w' ∧ KeepO (fun b => arT A b ∨ N b) w w' := by
    rintro e w' ⟨he, W3, ha, hf, rfl⟩
    obtain ⟨h1, h2⟩ := p.core.step hrb (fun b q => hf.block b (p.core.nlt b q).2 (hnN b q)) hf.size
    have hrN := (p.core.box _ _ hin).1
    refine ⟨he, ⟨(p.fr.trans hf).set (.inr (p.core.nlt _ hrN).1) _, ?_, h1, p.nb, p.sz, p.le, p.lt⟩, h2, ⟨by rw [World.size_setCell]; exact hf.size, fun b hb hn => (Below.heap_setCell _ _ _ _ (fun e => hn (.inr (by have e2 : b = rb := e; rw [e2]; exact hrN)))).trans (hf.block b hb (fun q => hn (.inl q)))⟩⟩
    have hrb3 : Bk W3 rb (rbC (G ++ xs) (G.length + i) (G.length + i)) 39 := (hf.block rb (p.core.nlt _ hrN).2 (hnN rb hrN)).trans hbx
    have hna : ∀ k, arT A k → (W3.setCell ⟨rb, 0, none⟩ (.int .u64 (hd (G.length + i) : Nat))).heap[k]? = W3.heap[k]? := fun k hk => Below.heap_setCell _ _ _ _ (fun e => hnN rb hrN (by have e2 : k = rb := e; rw [← e2]; exact hk))
    exact ha.setRt hna (by rw [World.size_setCell]; exact Nat.le_refl _) (fun b cs hq => hq.other (bk_ne hq hrb3 (by decide)))
  obtain ⟨n1, n2, n3, h1, h2, h3⟩ := hjb
  rcases h3 with ⟨bx, m1, a, b, hh, hks⟩ | ⟨h, bt, bk, ap, l, cap, Av, c, kbs, B, m1, m2, a, b, d, e, f, hh, g⟩
  · have hxe : x = ⟨0, x.T, []⟩ := by rw [← hh, ← hks]
    refine (run_leaf A (G ++ xs.take i) (G ++ xs.take (i + 1)) x (G.length + i) bp j.p j.c j.r rb bx v1 v2 _ _ _ _ _ w h1 a h2 hb hbx (hnN _ n3) (hnN _ (p.core.box _ _ hin).1) (fun W' hb' => ?_) hA).mono hpost
    refine (cont_leaf bx x.T W' (b.ext hb' b.lt)).mono fun e W'' ⟨he, hbb⟩ => ⟨.slice none 0 0, by rw [he, hxe], ⟨p.ar.ok, hnd, by rw [hgl]; have := p.le; omega, by rw [hks]; exact Sl.nil _ _, fun _ => rfl, hsz⟩, fun g hg => (by cases hg), hbb⟩
  · have hks2 : 2 ≤ x.ks.length ∧ x.ks.length ≤ 4 ∧ ∀ k ∈ x.ks, k < G.length + i := by
      rcases hnd with ⟨q, -⟩ | ⟨_, _, q2, q4, q, _⟩
      · omega
      · exact ⟨q2, q4, fun k hk => by have := (q k hk).1; rw [hgl] at this; exact this⟩
    have hxe : x = ⟨h + 1, x.T, x.ks⟩ := by rw [← hh]
    refine (runInn A (G ++ xs.take i) (G ++ xs.take (i + 1)) x (G.length + i) bp j.p j.c j.r rb bt bk v1 v2 _ _ _ _ _ w h1 a h2 hb hbx (hnN _ n3) (hnN _ (p.core.box _ _ hin).1) (fun W' hb' => ?_) hA).mono hpost
    have hall : All2 (fun b k => k < G.length + i ∧ Bk W' b (rbC (G ++ xs) (G.length + i) k) 39) kbs x.ks := g.imp fun b k _ hk q => ⟨hks2.2.2 k hk, (p.core.box b k q).2.2.ext hb' (p.core.box b k q).2.2.lt⟩
    refine (cont_in bt bk h ap l cap Av c B kbs x.ks (G ++ xs) (G.length + i) W' (b.ext hb' b.lt) (d.ext hb' d.lt) (e.ext hb' (Nat.le_refl _)) hall hks2.2.1).mono fun e W'' ⟨kv, he, hs, hg, hbb⟩ => ⟨kv, by rw [hxe]; exact he x.T, ⟨p.ar.ok, hnd, by rw [hgl]; have := p.le; omega, ?_, fun q => by rw [q] at hks2; simp at hks2, hsz⟩, fun g hq a => by have := hg g hq; have := p.ar.lt a; have := hb'.size; omega, hbb⟩
    have : x.ks.map (kdOf (G ++ xs)) = x.ks.map (kdOf (G ++ xs.take i)) := by
      rw [hgn]
      exact kds_app (Nat.le_refl _) hnd
    rw [← this]; exact hs

end Go.Proofs.YtclmjnobacepjaaGreat

/- rope.Pen.Step, Root. -/
namespace Go.Proofs.YtclmjnobacepjaaGreat
open Go.RowKit

/-- what is left to be run -/
def TodoS (W : World) (A : AF) (bp : Nat) (rt : Value) (N : Nat → Prop) (rem : List Jb) : Prop :=
  ∃ a c, Bk W bp #[.pointer (some ⟨A.ba, 0, none⟩), .slice a rem.length c, rt] 132 ∧ (rem ≠ [] → ∃ (g off : Nat) (cur : Array Value), a = some ⟨g, off, none⟩ ∧ N g ∧ Bk W g cur 154 ∧ rem.length ≤ c ∧ ∀ (m : Nat) (j : Jb), rem[m]? = some j → cur[off + m]? = some j.v)
theorem TodoS.keep {W W' : World} {A : AF} {bp : Nat} {rt : Value} {N : Nat → Prop} {rem : List Jb} (h : TodoS W A bp rt N rem) (hb : N bp) (hk : KeepN rtS N W W') : TodoS W' A bp rt N rem := by
  obtain ⟨a, c, h1, h2⟩ := h
  refine ⟨a, c, hk _ _ _ hb (by unfold rtS; decide) h1, fun q => ?_⟩
  obtain ⟨g, off, cur, e1, e2, e3, e4, e5⟩ := h2 q
  exact ⟨g, off, cur, e1, e2, hk _ _ _ e2 (by unfold rtS; decide) e3, e4, e5⟩
theorem sizeJb (W : World) : (sizeOf 154).run Tryz.prog W = .ok 1 W := by kernel_rfl
theorem elemJb : Tryz.prog.elem 129 = 154 := by kernel_rfl
theorem slJ_l (W : World) (b off n cap k : Nat) (h : k ≤ n) : (Instr.slice 129 (.slice (some ⟨b, off, none⟩) n cap) (some (.int .i64 k)) none none).run Tryz.prog W = .ok (.slice (if cap = k then some ⟨b, off, none⟩ else some ⟨b, off + k, none⟩) (n - k) (cap - k)) W := by
  rw [run_slice_l W 129 _ n cap (by rw [elemJb]; exact Tryz.underlying129) .i64 k (by omega) (by omega), elemJb, sizeJb]
  simp [sliced, Result.andThen, add_flat]

theorem PenR.setTodo {w0 : World} {A : AF} {G : Ar} {bp : Nat} {xs : List Nd} {js : List Jb} {rbs : List Nat} {bxs : List (Nat × Nat)} {i : Nat} {N : Nat → Prop} {W : World} {cs : Array Value} (p : PenR w0 A G bp xs js rbs bxs i N W) (hb : Bk W bp cs 132) (k : Nat) (u : Value) : PenR w0 A G bp xs js rbs bxs i N (W.setCell ⟨bp, k, none⟩ u) := by
  have hn := p.core.nlt bp p.nb
  refine ⟨p.fr.set (.inr hn.1) u, p.ar.setRt (fun k hk => Below.heap_setCell _ _ _ _ (fun e => ?_)) (by rw [World.size_setCell]; exact Nat.le_refl _) (fun b cs hq => hq.other (bk_ne hq hb (by decide))), p.core.keep (fun b cur t _ ht q => q.other (bk_ne q hb (fun e => ht (.inl e)))) (by rw [World.size_setCell]; exact Nat.le_refl _), p.nb, p.sz, p.le, p.lt⟩
  have := p.lt k hk
  simp only at e
  omega

set_option maxHeartbeats 2000000 in
set_option maxRecDepth 100000 in
theorem step_any {w0 : World} {A : AF} {G : Ar} {bp : Nat} {xs : List Nd} {js : List Jb} {rbs : List Nat} {bxs : List (Nat × Nat)} {i : Nat} {N : Nat → Prop} {rt : Value} {j : Jb} {rem : List Jb} {w : World} (p : PenR w0 A G bp xs js rbs bxs i N w) (hj : js[i]? = some j) (t : TodoS w A bp rt N (j :: rem)) (hl : rem.length ≤ 1000) :
    Calls Tryz.prog 49 #[.pointer (some ⟨bp, 0, none⟩)] w fun e w' => ∃ b : Bool, e = .returned (.tuple #[.int .u64 (hd (G.length + i) : Nat), .bool b, .int .i64 0]) ∧ PenR w0 A G bp xs js rbs bxs (i + 1) N w' ∧ TodoS w' A bp rt N rem ∧ KeepO (fun b => arT A b ∨ N b) w w' := by
  obtain ⟨a, c, h1, h2⟩ := id t
  obtain ⟨g, off, cur, rfl, e2, e3, e4, e5⟩ := h2 (by simp)
  have hjr := Lib.hid (job_run p hj h1)
  have T := Lib.hid t; have P := Lib.hid p
  rw [List.length_cons] at h1 e4
  obtain ⟨c0, c1, c2, -⟩ := h1.three
  have hlb := h1.lt
  have hlg := e3.lt
  have hcj : w.cell? ⟨g, off, none⟩ = some (.func (.func 104) #[] #[.pointer (some ⟨j.p, 0, none⟩), .pointer (some ⟨j.c, 0, none⟩), .pointer (some ⟨j.r, 0, none⟩)]) := by
    rw [e3.cell]
    exact e5 0 j rfl
  obtain ⟨X, cX, hsl, hX⟩ : ∃ X cX, (∀ W, (Instr.slice 129 (.slice (some ⟨g, off, none⟩) (rem.length + 1) c) (some (.int .i64 1)) none none).run Tryz.prog W = .ok (.slice X rem.length cX) W) ∧ (1 ≤ rem.length → X = some ⟨g, off + 1, none⟩ ∧ rem.length ≤ cX) :=
    ⟨if c = 1 then some ⟨g, off, none⟩ else some ⟨g, off + 1, none⟩, c - 1, fun W => by
      have := slJ_l W g off (rem.length + 1) c 1 (by omega)
      simpa using this, fun q => ⟨if_neg (by omega), by omega⟩⟩
  have HX := Lib.hid hX
  clear hX
  have hz : ((rem.length : Int) + 1 == 0) = false := by rw [beq_eq_false_iff_ne]; omega
  have H1 := Lib.hid h1; have E3 := Lib.hid e3; have E5 := Lib.hid e5; have E2 := Lib.hid e2; have E4 := Lib.hid e4
  have hri : (rem.length : Int) ≤ 1000 := by omega
  clear h1 h2 t p hj e2 e3 e4 e5
  go_enter Tryz.func49, Tryz.ntmps49
  go_wp2_with fail
  refine (hjr.out).mono ?_
  rintro e w5 ⟨rfl, hp5, hk5, ho5⟩
  have hb5 := hk5 _ _ _ P.out.nb (by unfold rtS; decide) H1.out
  have hg5 := hk5 _ _ _ E2.out (by unfold rtS; decide) E3.out
  obtain ⟨d0, d1, d2, f0, f1, f2⟩ := hb5.three
  have hl5 := hb5.lt
  have HO5 := Lib.hid ho5; have HNB := Lib.hid P.out.nb
  have HB5 := Lib.hid hb5; have HG5 := Lib.hid hg5; have HP5 := Lib.hid hp5
  clear ho5 hb5 hg5 hp5 hk5 hjr T P H1 E3 c0 c1 c2 hcj
  go_wp2_with fail
  go_region
  all_goals
    go_wp2_with fail
    refine bodyPost_ret (v := .tuple #[.int .u64 (hd (G.length + i) : Nat), .bool ((rem.length : Int) == 0), .int .i64 0]) (by simp [results, Tryz.results49, go_sem]) rfl ⟨_, rfl, ?_, ?_, ?_⟩
    · exact (HP5.out.setTodo HB5.out 1 _).ext (bdr (Below.refl _ _))
    · refine ⟨X, cX, HB5.out.set 1 _, fun hne => ?_⟩
      obtain ⟨hx1, hx2⟩ := HX.out (List.length_pos_iff.2 hne)
      refine ⟨g, off + 1, cur, hx1, E2.out, HG5.out.other (bk_ne HG5.out HB5.out (by decide)), hx2, fun m j' hm => ?_⟩
      have := E5.out (m + 1) j' (by simpa using hm)
      rw [show off + 1 + m = off + (m + 1) by omega]
      exact this
    · exact ⟨by show w.heap.size ≤ (w5.setCell ⟨bp, 1, none⟩ (.slice X rem.length cX)).heap.size; rw [World.size_setCell]; exact HO5.out.1, fun b hb hn => (Below.heap_setCell w5 ⟨bp, 1, none⟩ _ b (fun e => hn (.inr (by have e2 : b = bp := e; rw [e2]; exact HNB.out)))).trans (HO5.out.2 b hb hn)⟩

set_option maxHeartbeats 2000000 in
set_option maxRecDepth 100000 in
theorem root_any {A : AF} {bp rb : Nat} {N : Nat → Prop} (r : Rt) {w : World} (t : TodoS w A bp (.pointer (some ⟨rb, 0, none⟩)) N []) (h : Bk w rb #[.int .u64 r.at_, .int .i64 r.ht, .int .i64 r.b, .int .i64 r.r, .int .i64 r.n] 39) :
    Calls Tryz.prog 50 #[.pointer (some ⟨bp, 0, none⟩)] w fun e w' => e = .returned (.tuple #[r.v, .int .i64 0]) ∧ Below w.heap.size w w' := by
  obtain ⟨a, c, h1, -⟩ := t
  obtain ⟨c0, c1, c2, -⟩ := h1.three
  have hlb := h1.lt
  obtain ⟨r0, r1, r2, r3, r4, -⟩ := h.five
  have hlr := h.lt
  unfold Rt.v
  obtain ⟨u0, u1, u2, u3, u4⟩ := r
  simp only at *
  clear h1 h
  go_enter Tryz.func50, Tryz.ntmps50
  go_wp2_with fail
  refine bodyPost_ret (v := .tuple #[.agg #[.int .u64 u0, .int .i64 u1, .int .i64 u2, .int .i64 u3, .int .i64 u4], .int .i64 0]) (by simp [results, Tryz.results50, go_sem]) rfl ⟨rfl, ?_⟩
  exact bal (Below.refl _ _)

end Go.Proofs.YtclmjnobacepjaaGreat

/- Builtins on rows of elements of several cells: copy, append in place, clear: their runs, as steps of a walk. No condition. -/
namespace Go.Proofs.YtclmjnobacepjaaGreat
open Go.RowKit
variable {P : Program}

/-- copy of elements of K cells, dst in a row that is known -/
theorem run_copyK (w : World) (dT sT ty elem : TypeId) (g o dLen dCap : Nat) (a : Addr) (sLen sCap : Nat) (cur : Array Value) (t : TypeId) (cs : List Value) (K : Nat)
    (hu : P.underlying dT = some (.slice elem)) (hs : (P.info? elem).map (·.size) = some K)
    (hg : w.heap[g]? = some (.cells cur t (0, 0))) (hn : cs.length = Nat.min sLen dLen * K)
    (hsrc : ∀ j v, cs[j]? = some v → w.cell? (a.add j) = some v) (hfit : o + cs.length ≤ cur.size) (h1 : ∀ v ∈ cs, v.oneCell' = true) :
    (Builtin.copy_ #[dT, sT] ty #[.slice (some ⟨g, o, none⟩) dLen dCap, .slice (some a) sLen sCap]).run P w =
      .ok (goInt (Nat.min sLen dLen)) (w.setRow g (cur.toList.take o ++ cs ++ cur.toList.drop (o + cs.length)).toArray) := by
  have hst := run_storeCells_at P g o t cs 0 cur w hg (by simpa using hfit) h1
  cases hq : P.info? elem with
  | none => simp [hq] at hs
  | some i =>
    have hi : i.size = K := by simpa [hq] using hs
    have hfc := run_firstCells_some (P := P) w K (Nat.min sLen dLen) a sLen sCap cs hn hsrc
    simp [Builtin.copy_, run_underlying hu, Builtin.lenOf, sizeOf, typeInfo, hq, hi, hfc, hst]

/-- a call of a builtin with two arguments, its run known -/
theorem wpList_copyX {w : World} {ops : Array Oper} {rest : List Oper} {o : Oper} {a : Act} {Q : Exit → Act → World → Prop} (hgd : o.guard = none) (d s : Operand) (t t' : TypeId)
    (ho : o.op = .call { callee := .builtin .copy, args := #[d, s], argTypes := #[t, t'] }) (v u : Value) (hd : a.eval d = v) (hs : a.eval s = u) {v' : Value} {w' : World}
    (hr : (Builtin.copy_ #[t, t'] o.type #[v, u]).run P w = .ok v' w') (h : wpList P ops Q rest (a.put o.dst v') w') : wpList P ops Q (o :: rest) a w :=
  wpList_plain hgd fun _ hK => by
    unfold Oper.wp execOp
    simp only [ho, resolve, invoke, builtin, Sem.run_bind, Sem.run_pure, Result.andThen_ok, List.map_toArray, List.map_cons, List.map_nil, hd, hs, hr]
    exact hK _ _ h
theorem step_copyX {ops : Array Oper} {o : Oper} {a : Act} {w : World} {K : Act → World → Prop} {Q : Exit → Act → World → Prop} {E : Prop}
    (hg : o.guard = none) (d x : Operand) (dT sT : TypeId) (hop : o.op = Op.call { callee := Callee.builtin Builtin.copy, args := #[d, x], argTypes := #[dT, sT] })
    (v u : Value) (hd : a.eval d = v) (hx : a.eval x = u) {v' : Value} {w' : World} (hr : (Builtin.copy_ #[dT, sT] o.type #[v, u]).run P w = .ok v' w') (hK : K (a.put o.dst v') w') :
    if Region.wanted o (yielded ops a.tmps) = true then Oper.wp P o a w K Q else E := by
  have hw : Region.wanted o (yielded ops a.tmps) = true := by simp [Region.wanted, hg]
  rw [if_pos hw]
  unfold Oper.wp
  simp [execOp, hop, resolve, invoke, builtin, hd, hx, hr, Result.andThen]
  exact hK
theorem wpList_appendX {w : World} {ops : Array Oper} {rest : List Oper} {o : Oper} {a : Act} {Q : Exit → Act → World → Prop} (hgd : o.guard = none) (d s : Operand) (t t' : TypeId)
    (ho : o.op = .call { callee := .builtin .append, args := #[d, s], argTypes := #[t, t'] }) (v u : Value) (hd : a.eval d = v) (hs : a.eval s = u) {v' : Value} {w' : World}
    (hr : (Builtin.append_ #[t, t'] o.type #[v, u]).run P w = .ok v' w') (h : wpList P ops Q rest (a.put o.dst v') w') : wpList P ops Q (o :: rest) a w :=
  wpList_plain hgd fun _ hK => by
    unfold Oper.wp execOp
    simp only [ho, resolve, invoke, builtin, Sem.run_bind, Sem.run_pure, Result.andThen_ok, List.map_toArray, List.map_cons, List.map_nil, hd, hs, hr]
    exact hK _ _ h
theorem step_appendX {ops : Array Oper} {o : Oper} {a : Act} {w : World} {K : Act → World → Prop} {Q : Exit → Act → World → Prop} {E : Prop}
    (hg : o.guard = none) (d x : Operand) (dT sT : TypeId) (hop : o.op = Op.call { callee := Callee.builtin Builtin.append, args := #[d, x], argTypes := #[dT, sT] })
    (v u : Value) (hd : a.eval d = v) (hx : a.eval x = u) {v' : Value} {w' : World} (hr : (Builtin.append_ #[dT, sT] o.type #[v, u]).run P w = .ok v' w') (hK : K (a.put o.dst v') w') :
    if Region.wanted o (yielded ops a.tmps) = true then Oper.wp P o a w K Q else E := by
  have hw : Region.wanted o (yielded ops a.tmps) = true := by simp [Region.wanted, hg]
  rw [if_pos hw]
  unfold Oper.wp
  simp [execOp, hop, resolve, invoke, builtin, hd, hx, hr, Result.andThen]
  exact hK
theorem wpList_clearX {w : World} {ops : Array Oper} {rest : List Oper} {o : Oper} {a : Act} {Q : Exit → Act → World → Prop} (hgd : o.guard = none) (d : Operand) (t : TypeId)
    (ho : o.op = .call { callee := .builtin .clear, args := #[d], argTypes := #[t] }) (v : Value) (hd : a.eval d = v) {v' : Value} {w' : World}
    (hr : (Builtin.clear_ #[t] o.type #[v]).run P w = .ok v' w') (h : wpList P ops Q rest (a.put o.dst v') w') : wpList P ops Q (o :: rest) a w :=
  wpList_plain hgd fun _ hK => by
    unfold Oper.wp execOp
    simp only [ho, resolve, invoke, builtin, Sem.run_bind, Sem.run_pure, Result.andThen_ok, List.map_toArray, List.map_cons, List.map_nil, hd, hr]
    exact hK _ _ h

/-- a row's cells under a change of them from a place on -/
def lay (cur : List Value) (o : Nat) (cs : List Value) : List Value := cur.take o ++ cs ++ cur.drop (o + cs.length)
theorem lay_len (cur : List Value) (o : Nat) (cs : List Value) (h : o + cs.length ≤ cur.length) : (lay cur o cs).length = cur.length := by
  simp [lay]; omega
theorem below_row {B g : Nat} {w0 w : World} (hb : Below B w0 w) (hBg : B ≤ g) (cs : Array Value) : Below B w0 (w.setRow g cs) :=
  hb.trans ⟨rfl, rfl, rfl, by simp [World.setRow], fun k hk => setRow_other w g k cs (by omega)⟩
/-- a row that is shifted up by one element at place i, and the element laid -/
theorem lay_insert (K : Nat) (cur X Y c : List Value) (i : Nat) (n : Nat) (hX : X.length = i * K) (hY : Y.length = (n - i) * K) (hc : c.length = K) (hi : i ≤ n) (ht : cur.take (n * K) = X ++ Y) (hl : (n + 1) * K ≤ cur.length) :
    (lay (lay cur ((i + 1) * K) Y) (i * K) c).take ((n + 1) * K) = X ++ (c ++ Y) := by
  have e0 : n * K = i * K + (n - i) * K := by rw [← Nat.add_mul]; congr 1; omega
  have e1 : (i + 1) * K = i * K + K := by rw [Nat.add_mul, Nat.one_mul]
  have e2 : (n + 1) * K = i * K + K + (n - i) * K := by rw [Nat.add_mul, Nat.one_mul, e0]; omega
  have hx : cur.take (i * K) = X := by
    have hle : i * K ≤ n * K := Nat.mul_le_mul_right K hi
    have h : (cur.take (n * K)).take (i * K) = (X ++ Y).take (i * K) := by rw [ht]
    rw [List.take_take, Nat.min_eq_left hle, List.take_append_of_le_length (Nat.le_of_eq hX.symm), List.take_of_length_le (l := X) (Nat.le_of_eq hX)] at h
    exact h
  have hl2 : i * K + K + (n - i) * K ≤ cur.length := by omega
  unfold lay
  rw [e1, e2, hY, hc]
  have a1 : (cur.take (i * K + K) ++ Y ++ cur.drop (i * K + K + (n - i) * K)).take (i * K) = X := by
    rw [List.append_assoc, List.take_append_of_le_length (by rw [List.length_take]; omega), List.take_take, Nat.min_eq_left (by omega), hx]
  have a2 : (cur.take (i * K + K) ++ Y ++ cur.drop (i * K + K + (n - i) * K)).drop (i * K + K) = Y ++ cur.drop (i * K + K + (n - i) * K) := by
    rw [List.append_assoc, List.drop_append_of_le_length (by rw [List.length_take]; omega), List.drop_eq_nil_of_le (by rw [List.length_take]; omega), List.nil_append]
  rw [a1, a2, List.append_assoc, ← List.append_assoc c, ← List.append_assoc X, List.take_append_of_le_length (by simp; omega), List.take_of_length_le (by simp; omega)]

end Go.Proofs.YtclmjnobacepjaaGreat

/- package freelist: Free, slots, Withdrawn, Handles. -/
namespace Go.Proofs.YtclmjnobacepjaaGreat
open Go.RowKit

set_option maxRecDepth 100000 in
theorem hmkI (W : World) (n : Nat) (h2 : 1 ≤ n) (h4 : n ≤ 1000) : (Instr.makeSlice 95 (.int .i64 n) (.int .i64 n)).run Tryz.prog W = .ok (.slice (some ⟨W.heap.size, 0, none⟩) n n) (W.alloc (.cells (ints (List.replicate n 0)) 3)) := by
  obtain ⟨i, hi, hz⟩ : ∃ i, Tryz.prog.info? 3 = some i ∧ (i.zero, i.size, i.bytes) = (some (.int .i64 0), 1, 8) := by
    have := infoInt
    obtain ⟨i, hi⟩ : ∃ i, Tryz.prog.info? 3 = some i := by
      cases h : Tryz.prog.info? 3 with
      | none => rw [h] at this; simp at this
      | some i => exact ⟨i, rfl⟩
    rw [hi] at this
    exact ⟨i, hi, Option.some.inj this⟩
  obtain ⟨hz0, hz1⟩ := Prod.mk.inj hz
  obtain ⟨hz1, hz2⟩ := Prod.mk.inj hz1
  have := run_makeSlice (P := Tryz.prog) W 95 3 i _ Tryz.underlying95 hi hz0 .i64 .i64 n n (by omega) (Int.le_refl _) (by rw [hz1]; simp; omega) (by rw [hz2]; omega) (by omega)
  rw [this, hz1]
  simp only [Int.toNat_natCast, Nat.mul_one]
  rw [show (Value.int .i64 0).cells = #[.int .i64 0] from rfl, made_ints]
theorem copyI (w : World) (ty : TypeId) (sb : Nat) (S : List Nat) (cur : Array Value) (hb : Bk w sb cur 3) (hc : cur.toList.take S.length = S.map iv) :
    (Builtin.copy_ #[95, 95] ty #[.slice (some ⟨w.heap.size, 0, none⟩) S.length S.length, .slice (some ⟨sb, 0, none⟩) S.length 1000]).run Tryz.prog (w.alloc (.cells (ints (List.replicate S.length 0)) 3)) = .ok (.int .i64 S.length) (w.alloc (.cells (ints S) 3)) := by
  have hlt := hb.lt
  have h1 := run_copyK (P := Tryz.prog) (w.alloc (.cells (ints (List.replicate S.length 0)) 3)) 95 95 ty 3 w.heap.size 0 S.length S.length ⟨sb, 0, none⟩ S.length 1000 (ints (List.replicate S.length 0)) 3 (S.map iv) 1 Tryz.underlying95 (by have := infoInt; cases h : Tryz.prog.info? 3 with | none => rw [h] at this; simp at this | some i => rw [h] at this; simp at this ⊢; exact this.2.1) (Bk.new _ _ _) (by simp)
    (fun j v hj => by
      rw [add_flat, Nat.zero_add]
      refine Lib.cell?_alloc_some _ ?_
      rw [hb.cell, ← Array.getElem?_toList]
      have hjl : j < S.length := by have := (List.getElem?_eq_some_iff.1 hj).1; simpa using this
      have := List.getElem?_take (l := cur.toList) (i := S.length) (j := j)
      rw [hc, if_pos hjl] at this
      rw [← this]; exact hj) (by simp [ints_size]) (by intro v hv; obtain ⟨i, _, rfl⟩ := List.mem_map.1 hv; rfl)
  rw [h1, World.setRow_alloc_new]
  have : ((ints (List.replicate S.length 0)).toList.take 0 ++ S.map iv ++ (ints (List.replicate S.length 0)).toList.drop (0 + (S.map iv).length)).toArray = ints S := by
    simp [ints, iv]
  rw [this]
  simp [goInt]

set_option maxHeartbeats 2000000 in
set_option maxRecDepth 100000 in
theorem free_any (F : FLb) (S X Y : List Nat) (w : World) (h : FL w F S X Y) (h1 : 1 ≤ S.length) :
    Calls Tryz.prog 29 #[.pointer (some ⟨F.lb, 0, none⟩)] w fun e w' => ∃ A c, e = .returned (.slice A S.length c) ∧ Below w.heap.size w w' := by
  obtain ⟨cur, hcur, -, hct⟩ := h.stack
  obtain ⟨c0, -⟩ := h.list.four
  have hcp := fun ty => copyI w ty F.sb S cur hcur hct
  have hmk := hmkI w S.length h1 h.slen
  have hl := h.list.lt
  have hsl := h.slen
  have i1 := Lib.hid (IntWalk.i64_in ((S.length : Int) - 1) ⟨by omega, by omega⟩)
  have v1 := i1.out
  have H1 := Lib.hid h1; have HS := Lib.hid hsl
  have hl1 : (S.length : Int) ≤ 1000 := by omega
  have hl2 : (1 : Int) ≤ S.length := by omega
  clear h hcur hct h1 hsl
  go_enter Tryz.func29, Tryz.ntmps29
  go_wp2_with fail
  go_loopw [4, 5] (fun a b wr => ∃ (i j : Int) (L : List Nat), 0 ≤ i ∧ -1 ≤ j ∧ i ≤ S.length ∧ j < S.length ∧ a = .int .i64 i ∧ b = .int .i64 j ∧ L.length = S.length ∧ Hid (Bk wr w.heap.size (ints L) 3) ∧ Hid (Below w.heap.size w wr)) (fun _ b _ => (intOf b + 1).toNat)
  case atStart => exact ⟨0, (S.length : Int) - 1, S, by omega, by omega, by omega, by omega, rfl, rfl, rfl, Lib.hid (Bk.new _ _ _), Lib.hid (bal (Below.refl _ _))⟩
  case round =>
    obtain ⟨i, j, L, hi, hj, hi2, hj2, rfl, rfl, hL, HB, HW⟩ := hrel
    by_cases hlt : i < j
    · obtain ⟨m, rfl⟩ : ∃ m : Nat, i = m := ⟨i.toNat, by omega⟩
      obtain ⟨k, rfl⟩ : ∃ k : Nat, j = k := ⟨j.toNat, by omega⟩
      have hm : m < L.length := by omega
      have hk : k < L.length := by omega
      have cm : wr.cell? ⟨w.heap.size, m, none⟩ = some (.int .i64 (L[m] : Nat)) := by rw [HB.out.cell, ints_get (List.getElem?_eq_getElem hm)]
      have ck : wr.cell? ⟨w.heap.size, k, none⟩ = some (.int .i64 (L[k] : Nat)) := by rw [HB.out.cell, ints_get (List.getElem?_eq_getElem hk)]
      have fm := HB.out.free m
      have fk := HB.out.free k
      have hbl := HB.out.lt
      have i2 := Lib.hid (IntWalk.i64_in ((m : Int) + 1) ⟨by omega, by omega⟩)
      have i3 := Lib.hid (IntWalk.i64_in ((k : Int) - 1) ⟨by omega, by omega⟩)
      have v2 := i2.out; have v3 := i3.out
      have hmk' : m ≠ k := by omega
      have hLL := Lib.hid hL
      clear hL
      generalize L[m] = x at *
      generalize L[k] = y at *
      go_upto_region 8 with (fail)
      go_region
      all_goals
        go_wp2_with fail
        go_roundw
        case rel =>
          refine ⟨(m : Int) + 1, (k : Int) - 1, (L.set m y).set k x, by omega, by omega, by omega, by omega, rfl, rfl, by simp [hLL.out], Lib.hid ?_, Lib.hid ?_⟩
          · rw [← ints_set, ← ints_set]
            exact (HB.out.set m _).set k _
          · exact bdr (bset (bset HW.out (by simp)) (by simp))
        case measure => simp [intOf] <;> omega
    · go_wp2_with fail
      go_ret
      exact ⟨⟨_, _, rfl⟩, HW.out⟩

/-- the slots below i that are in state s -/
def stI (X : List Nat) (s i : Nat) : List Nat := (List.range i).filter (fun k => decide (X[k]? = some s))
theorem stI_len (X : List Nat) (s i : Nat) : (stI X s i).length ≤ i := by
  have := List.length_filter_le (fun k => decide (X[k]? = some s)) (List.range i)
  rw [List.length_range] at this
  exact this
theorem stI_in {X : List Nat} {s i : Nat} (h : X[i]? = some s) : stI X s (i + 1) = stI X s i ++ [i] := by
  unfold stI
  rw [List.range_succ, List.filter_append]
  simp [h]
theorem stI_out {X : List Nat} {s i : Nat} (h : X[i]? ≠ some s) : stI X s (i + 1) = stI X s i := by
  unfold stI
  rw [List.range_succ, List.filter_append]
  simp [h]

set_option maxHeartbeats 2000000 in
set_option maxRecDepth 100000 in
theorem slots_any (F : FLb) (S X Y : List Nat) (s : Nat) (w : World) (h : FL w F S X Y) (hs : s < 256) (hX : ∀ x ∈ X, x < 256) :
    Calls Tryz.prog 42 #[.pointer (some ⟨F.lb, 0, none⟩), .int .u8 s] w fun e w' => ∃ A c, e = .returned (.slice A (stI X s 1000).length c) ∧ Ow intE w' w.heap.size 3 (.slice A (stI X s 1000).length c) (stI X s 1000) ∧ Below w.heap.size w w' := by
  obtain ⟨-, c1, -⟩ := h.list.four
  have hl := h.list.lt
  have HX := Lib.hid h.states; have HL := Lib.hid h.xlen
  have HTB := Lib.hid h.states.lt
  clear h
  go_enter Tryz.func42, Tryz.ntmps42
  go_wp2_with fail
  go_loopw [5, 16] (fun o i wr => ∃ j : Nat, j ≤ 1000 ∧ i = .int .i64 j ∧ ∃ A c, o = .slice A (stI X s j).length c ∧ Hid (Ow intE wr w.heap.size 3 (.slice A (stI X s j).length c) (stI X s j)) ∧ Hid (Below w.heap.size w wr)) (fun _ i _ => 1000 - (intOf i).toNat)
  case atStart => exact ⟨0, by omega, rfl, none, 0, rfl, Lib.hid (Ow.nil _ _ _ _), Lib.hid (Below.refl _ _)⟩
  case round =>
    obtain ⟨j, hj, rfl, A, c, rfl, HO, HB⟩ := hrel
    by_cases hlt : j < 1000
    · obtain ⟨x, hx⟩ : ∃ x, X[j]? = some x := ⟨_, List.getElem?_eq_getElem (by rw [HL.out]; exact hlt)⟩
      have hst := HX.out.ext HB.out HTB.out
      have ct : wr.cell? ⟨F.tb, j, none⟩ = some (.int .u8 x) := by rw [hst.cell]; simp [hx, sv8]
      have hlt2 := hst.lt
      have hji : (j : Int) < 1000 := by omega
      have hsz := HB.out.size
      have hjl := stI_len X s j
      by_cases e : x = s
      · subst e
        have HT := Lib.hid (stI_in hx)
        clear hst hx
        generalize hL : stI X x j = L at *
        clear hL
        go_wp2_with (at_builtin; refine Hid.out ?_)
        refine Lib.hid ?_
        refine wpOw1 _ intOK rfl (.tmp 24) (.tmp 26) rfl w.heap.size (by first | (simp; done) | (simp; omega)) (.slice A L.length c) L rfl (HO.out.alloc _) j wr.heap.size 1 rfl (new_cells _ _ _) (by omega) ?_
        intro A8 c8 w8 hown8 hg8
        have HO8 := Lib.hid hown8
        have HB8 := Lib.hid ((bal HB.out).grown hg8 (by simp; omega) (fun k hk => (HO.out.lt k hk).1))
        clear hown8 hg8
        go_wp2_with fail
        go_roundw
        case rel => exact ⟨j + 1, by omega, by go_num, A8, c8, by rw [HT.out, List.length_append]; rfl, Lib.hid (by rw [HT.out, List.length_append]; exact HO8.out), HB8⟩
        case measure => simp [intOf]; omega
      · have HT := Lib.hid (stI_out (s := s) (show X[j]? ≠ some s from fun q => e (by rw [hx] at q; exact Option.some.inj q)))
        have hne : ((x : Int) == (s : Int)) = false := by rw [beq_eq_false_iff_ne]; omega
        clear hst hx
        go_wp2_with fail
        go_roundw
        case rel => exact ⟨j + 1, by omega, by go_num, A, c, by rw [HT.out], Lib.hid (by rw [HT.out]; exact HO.out), HB⟩
        case measure => simp [intOf]; omega
    · obtain rfl : j = 1000 := by omega
      go_wp2_with fail
      go_ret
      exact ⟨A, c, rfl, HO.out, HB.out⟩

set_option maxHeartbeats 1000000 in
set_option maxRecDepth 100000 in
theorem withdrawn_any (F : FLb) (S X Y : List Nat) (w : World) (h : FL w F S X Y) (hX : ∀ x ∈ X, x < 256) :
    Calls Tryz.prog 30 #[.pointer (some ⟨F.lb, 0, none⟩)] w fun e w' => ∃ A n c, e = .returned (.slice A n c) ∧ n ≤ 1000 ∧ Below w.heap.size w w' := by
  have C := Lib.hid (slots_any F S X Y 2 w h (by omega) hX)
  have HL := Lib.hid (stI_len X 2 1000)
  clear h hX
  go_enter Tryz.func30, Tryz.ntmps30
  go_wp2_with fail
  refine (C.out).mono ?_
  rintro e w8 ⟨A, c, rfl, -, hb⟩
  have HB := Lib.hid hb
  clear hb
  go_wp2_with fail
  go_ret
  exact ⟨A, _, c, rfl, HL.out, HB.out⟩

set_option maxHeartbeats 2000000 in
set_option maxRecDepth 100000 in
theorem handles_any (F : FLb) (S X : List Nat) (w : World) (h : FL w F S X (List.replicate 1000 1)) (hX : ∀ x ∈ X, x < 256) :
    Calls Tryz.prog 27 #[.pointer (some ⟨F.lb, 0, none⟩)] w fun e w' => ∃ A c, e = .returned (.slice A (stI X 1 1000).length c) ∧ Ow hndE w' w.heap.size 35 (.slice A (stI X 1 1000).length c) ((stI X 1 1000).map hd) ∧ Below w.heap.size w w' := by
  have C := Lib.hid (slots_any F S X (List.replicate 1000 1) 1 w h (by omega) hX)
  have HL := Lib.hid (stI_len X 1 1000)
  have hlt1000 : ∀ k ∈ stI X 1 1000, k < 1000 := fun k hk => by simp [stI] at hk; exact hk.1
  have HLT := Lib.hid hlt1000
  have HF := Lib.hid h
  clear h hX hlt1000
  generalize stI X 1 1000 = L at *
  go_enter Tryz.func27, Tryz.ntmps27
  go_wp2_with fail
  refine (C.out).mono ?_
  rintro e w2 ⟨A, c, rfl, ho, hb⟩
  have HO := Lib.hid ho; have HB := Lib.hid hb
  have hl1 : (L.length : Int) ≤ 1000 := by have := HL.out; omega
  clear ho hb C
  go_wp2_with fail
  go_loopw [3, 11] (fun o i wr => ∃ j : Nat, j ≤ L.length ∧ i = .int .i64 j ∧ ∃ A8 c8, o = .slice A8 j c8 ∧ Hid (Ow hndE wr w2.heap.size 35 (.slice A8 j c8) ((L.take j).map hd)) ∧ Hid (Below w2.heap.size w2 wr)) (fun _ i _ => L.length - (intOf i).toNat)
  case atStart => exact ⟨0, by omega, rfl, none, 0, rfl, Lib.hid (Ow.nil _ _ _ _), Lib.hid (Below.refl _ _)⟩
  case round =>
    obtain ⟨j, hj, rfl, A8, c8, rfl, HR, HW⟩ := hrel
    by_cases hlt : j < L.length
    · obtain ⟨b', off', cap', hv, hbl, hcc⟩ := HO.out.sl.int (k := j) hlt
      obtain ⟨rfl, rfl⟩ : A = some ⟨b', off', none⟩ ∧ c = cap' := by injection hv with e1 e2 e3; exact ⟨e1, e3⟩
      have q0 := hcc wr HW.out
      have htk : (L.take (j + 1)).map hd = (L.take j).map hd ++ [hd L[j]] := by
        rw [List.take_add_one, List.getElem?_eq_getElem hlt, List.map_append]; rfl
      have hll : ((L.take j).map hd).length = j := by rw [List.length_map, List.length_take]; omega
      have hk1000 := HLT.out L[j] (List.getElem_mem hlt)
      have hfr := (HF.out.gens.ext HB.out HF.out.gens.lt).ext HW.out (by have := HF.out.gens.lt; have := HB.out.size; omega)
      have cg : wr.cell? ⟨F.gb, L[j], none⟩ = some (.int .u64 1) := by
        rw [hfr.cell, List.getElem?_toArray, List.getElem?_map, List.getElem?_replicate, if_pos hk1000]; rfl
      have hgl := hfr.lt
      have hlst := (HF.out.list.ext HB.out HF.out.list.lt).ext HW.out (by have := HF.out.list.lt; have := HB.out.size; omega)
      obtain ⟨-, -, c2, -⟩ := hlst.four
      have hll2 := hlst.lt
      have HTK := Lib.hid htk
      have hji : (j : Int) < (L.length : Int) := by omega
      have hbw : b' < wr.heap.size := by have := HW.out.size; omega
      clear hcc hv htk hfr hlst
      generalize L[j] = m at *
      have hmi : (m : Int) < 1000 := by omega
      have CM := Lib.hid (make_any m (by omega))
      generalize hLL : (L.take j).map hd = LL at *
      clear hLL
      subst hll
      go_wp2_with (first | (go_at_call 43; refine (CM.out _).mono ?_; rintro e w5 ⟨rfl, rfl⟩) | (at_builtin; refine Hid.out ?_))
      refine Lib.hid ?_
      refine wpOw1 _ hndOK rfl (.tmp 27) (.tmp 29) rfl w2.heap.size (by have := HW.out.size; simp; omega) (.slice A8 LL.length c8) LL rfl (HR.out.alloc _) (hd m) _ 1 rfl (new_cells _ _ _) (by have := HL.out; omega) ?_
      intro A9 c9 w9 hown9 hg9
      have HO9 := Lib.hid hown9
      have HB9 := Lib.hid ((bal HW.out).grown hg9 (by have := HW.out.size; simp; omega) (fun k hk => (HR.out.lt k hk).1))
      clear hown9 hg9
      go_wp2_with fail
      go_roundw
      case rel => exact ⟨LL.length + 1, by omega, by go_num, A9, c9, rfl, Lib.hid (by rw [HTK.out]; exact HO9.out), HB9⟩
      case measure => simp [intOf]; omega
    · obtain rfl : j = L.length := by omega
      have hR := HR.out
      rw [List.take_length] at hR
      have HR2 := Lib.hid hR
      clear hR HR
      go_wp2_with fail
      go_ret
      exact ⟨A8, c8, rfl, HR2.out.base HB.out.size, bcall HB.out HW.out⟩

/-- the slots that are taken, nothing having been freed -/
theorem stI_stt {n : Nat} (h : n ≤ 1000) : stI (stt n) 1 1000 = List.range n := by
  unfold stI
  have e : List.range 1000 = List.range n ++ (List.range (1000 - n)).map (n + ·) := by rw [← List.range_add]; congr 1; omega
  rw [e, List.filter_append]
  have h1 : (List.range n).filter (fun k => decide ((stt n)[k]? = some 1)) = List.range n := by
    apply List.filter_eq_self.2
    intro k hk
    have hk := List.mem_range.1 hk
    simp [stt, List.getElem?_append, List.getElem?_replicate, hk]
  have h2 : ((List.range (1000 - n)).map (n + ·)).filter (fun k => decide ((stt n)[k]? = some 1)) = [] := by
    apply List.filter_eq_nil_iff.2
    intro k hk
    obtain ⟨i, hi, rfl⟩ := List.mem_map.1 hk
    have hi := List.mem_range.1 hi
    simp [stt, List.getElem?_append, List.getElem?_replicate]
  rw [h1, h2, List.append_nil]

end Go.Proofs.YtclmjnobacepjaaGreat
