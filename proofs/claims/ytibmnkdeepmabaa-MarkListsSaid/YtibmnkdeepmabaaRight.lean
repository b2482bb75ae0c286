/- shift.look.right: where a position moves by the bytes at or behind it. Condition: valid pieces of moderate size. -/
import Derived.Test.YtibmnkdeepmabaaLeft
namespace Go.Proofs.Ytibmnkdeepmabaa
open Go.RowKit Go.Shelf
attribute [local go_sem] Oper.semAt_some

/-- between two rounds of right -/
structure RightI (w : World) (x e : Int) (xs : List Rn) (k : Nat) (W : World) : Prop where
  o : Var W (w.heap.size + 1 + 1) 3 (.int .i64 0)
  xc : Var W (w.heap.size + 1) 3 (.int .i64 x)
  eq : rightP x e xs = rightP x e (xs.drop k)
  b : Below w.heap.size w W
  sz : w.heap.size + 1 + 1 + 1 ≤ W.heap.size
/-- where a round of right has ended the loop -/
structure RightX (w : World) (x e : Int) (xs : List Rn) (c : Code) (W : World) : Prop where
  c : c = .ret
  o : Var W (w.heap.size + 1 + 1) 3 (.int .i64 (rightP x e xs))
  b : Below w.heap.size w W
theorem RightI.keep {w : World} {x e : Int} {xs : List Rn} {k : Nat} {C D : World} (h : RightI w x e xs k C) (hb : Below (w.heap.size + 1 + 1 + 1) C D) : RightI w x e xs k D :=
  ⟨var_below h.o hb (by omega), var_below h.xc hb (by omega), h.eq, h.b.trans (hb.mono (by omega)), Nat.le_trans h.sz hb.size⟩
theorem RightX.keep {w : World} {x e : Int} {xs : List Rn} {c : Code} {C D : World} (h : RightX w x e xs c C) (hb : Below (w.heap.size + 1 + 1 + 1) C D) : RightX w x e xs c D :=
  ⟨h.c, var_below h.o hb (by omega), h.b.trans (hb.mono (by omega))⟩

set_option maxRecDepth 100000 in
set_option maxHeartbeats 2000000 in
theorem right_any (v : Value) (l : List Pc) (t : Bool) (x e : Int) (w : World) (h : Sl pcE w v l) (hl : Mod l) (h0 : 0 ≤ x) (h1 : x ≤ 10000000000000) :
    Calls Try.prog 77 #[.agg #[v, .bool t], .int .i64 x, .int .i64 e] w fun E w' => E = .returned (.int .i64 (rightP x e (runsT t l))) ∧ Below w.heap.size w w' := by
  have hit := fun w' hb => runs_iter v l t w w' h hl hb
  have hok := runs_ok hl t
  obtain ⟨A, cap, rfl, -, -, -⟩ := id h
  generalize runsT t l = xs at *
  generalize l.length = len at *
  refine (callsIn_wide (n := 9)).1 ?_
  refine callsIn_of_wp_marks Try.func77 rfl trivial ?_ rfl
  simp only [Try.ntmps77, List.size_toArray, List.length_cons, List.length_nil, Nat.reduceAdd, Nat.reduceSub, Array.replicate_succ, Array.replicate_zero, List.push_toArray, List.append_toArray, List.nil_append, List.cons_append]
  gi_wp2_with fail
  have hv1 := (Var.new (w.alloc (.cells #[.slice A len cap, .bool t] 84)) 3 (.int .i64 x)).keep (Fr.alloc (fun _ => False) _ (.cells #[.int .i64 0] 3)) id
  have hv2 := Var.new ((w.alloc (.cells #[.slice A len cap, .bool t] 84)).alloc (.cells #[.int .i64 x] 3)) 3 (.int .i64 0)
  simp only [World.size_alloc] at hv1 hv2
  have hB0 : Below w.heap.size w (((w.alloc (.cells #[.slice A len cap, .bool t] 84)).alloc (.cells #[.int .i64 x] 3)).alloc (.cells #[.int .i64 0] 3)) := (((Below.refl _ w).alloc (Nat.le_refl _) _).alloc (by simp) _).alloc (by simp; omega) _
  have hz0 : (((w.alloc (.cells #[.slice A len cap, .bool t] 84)).alloc (.cells #[.int .i64 x] 3)).alloc (.cells #[.int .i64 0] 3)).heap.size = w.heap.size + 1 + 1 + 1 := by simp
  generalize ((w.alloc (.cells #[.slice A len cap, .bool t] 84)).alloc (.cells #[.int .i64 x] 3)).alloc (.cells #[.int .i64 0] 3) = W0 at *
  refine wpIn_rangeMethod (n₀ := w.heap.size) (xs := xs) (gf := 89) (fb := #[.agg #[.slice A len cap, .bool t]]) (encs := fun r : Rn => #[r.v]) rfl (enters_of Try.func89 (by kernel_rfl) rfl) (hit _ hB0) (fun _ => rfl)
    (RightI w x e xs) (RightX w x e xs) ?hI ?hIx ?hIb ?h0 ?round ?done ?stop
  case hI => exact fun k C D hc hb _ => hc.keep (by rw [hz0] at hb; exact hb)
  case hIx => exact fun c C D hc hb _ => hc.keep (by rw [hz0] at hb; exact hb)
  case hIb => exact fun k C hc => below_from hB0 hc.b (by have := hc.sz; omega)
  case h0 => exact ⟨hv2, hv1, rfl, hB0, by omega⟩
  case round =>
    intro l k r W hr hi hz
    obtain ⟨ra, ro, rn⟩ := r
    obtain ⟨r1, r2, r3, r4, r5, r6⟩ := hok _ (List.mem_of_getElem? hr)
    dsimp only at r1 r2 r3 r4 r5 r6
    have hIt := Lib.hid hi
    clear hi
    dsimp only [Rn.v]
    gi_wp2_with fail
    refine ⟨(Below.refl _ _).alloc (Nat.le_refl _) _, ?_⟩
    intro W2 hf hs2 hi2
    obtain ⟨v2, v1, he, hb2, hz2⟩ := hi2
    have g : W2.heap[W.heap.size]? = some (.cells #[.int .i64 ra, .int .i64 ro, .int .i64 rn] 128 (0, 0)) := (hf.block _ (by simp) (by omega)).trans (heap_alloc_new W _)
    have k0 : W2.cell? ⟨W.heap.size, 0, none⟩ = some (.int .i64 ra) := by rw [Lib.cell_of_heap g]; rfl
    have k1 : W2.cell? ⟨W.heap.size, 1, none⟩ = some (.int .i64 ro) := by rw [Lib.cell_of_heap g]; rfl
    have k2 : W2.cell? ⟨W.heap.size, 2, none⟩ = some (.int .i64 rn) := by rw [Lib.cell_of_heap g]; rfl
    have k3 := v1.cell
    have k4 := v2.cell
    have k5 := v2.frozen
    have l0 := heap_lt g
    have V2 := Lib.hid v2; have V1 := Lib.hid v1; have He := Lib.hid he; have Hb2 := Lib.hid hb2; have Hz2 := Lib.hid hz2
    have hdr : xs.drop k = ⟨ra, ro, rn⟩ :: xs.drop (k + 1) := by
      obtain ⟨hk, e⟩ := List.getElem?_eq_some_iff.1 hr
      rw [List.drop_eq_getElem_cons hk, e]
    have Hdr := Lib.hid hdr
    clear hf hs2 g v1 v2 he hb2 hdr hr hIt
    by_cases hx : x < ra + rn
    · have hL : rightP x e xs = ro + max 0 (x - ra) := by rw [He.out, Hdr.out, rightP, if_pos hx]
      have HL := Lib.hid hL; clear hL
      have hst : ∀ z : Int, z = ro + max 0 (x - ra) → Fr (betw w.heap.size (w.heap.size + 1 + 1 + 1)) W2 (W2.setCell ⟨w.heap.size + 1 + 1, 0, none⟩ (.int .i64 z)) ∧ RightX w x e xs .ret (W2.setCell ⟨w.heap.size + 1 + 1, 0, none⟩ (.int .i64 z)) := fun z hz' => by
        have hf : Fr (· = w.heap.size + 1 + 1) W2 (W2.setCell ⟨w.heap.size + 1 + 1, 0, none⟩ (.int .i64 z)) := Fr.setCell _ W2 ⟨w.heap.size + 1 + 1, 0, none⟩ _ rfl
        exact ⟨hf.mono fun i _ hi => by unfold betw; omega, ⟨rfl, by rw [HL.out, ← hz']; exact V2.out.set _, Hb2.out.setCell (by exact Nat.le_trans (Nat.le_succ _) (Nat.le_succ _)) _⟩⟩
      have Hst := Lib.hid hst; clear hst
      gi_wp2
      all_goals exact Hst.out _ (by omega)
    · have hL : rightP x e xs = rightP x e (xs.drop (k + 1)) := by rw [He.out, Hdr.out, rightP, if_neg hx]
      have HL := Lib.hid hL; clear hL
      gi_wp2
      exact ⟨Fr.refl _ _, ⟨V2.out, V1.out, HL.out, Hb2.out, Hz2.out⟩⟩
  case done =>
    intro D W hD hi hK
    have he' := hi.eq
    rw [List.drop_length] at he'
    have He := Lib.hid he'
    have k4 := hi.o.cell
    have k5 := hi.o.frozen
    have HI := Lib.hid hi; have HK := Lib.hid hK
    have lt := hi.o.lt
    clear he' hi hK
    gi_wp2
    have hf : Fr (· = w.heap.size + 1 + 1) W (W.setCell ⟨w.heap.size + 1 + 1, 0, none⟩ (.int .i64 e)) := Fr.setCell _ W ⟨w.heap.size + 1 + 1, 0, none⟩ _ rfl
    have hK' := (hf.block D (heap_lt HK.out) (by omega)).trans HK.out
    refine ⟨by simp, .inl ⟨_, _, rfl, run_takeDeferred hK', ?_⟩⟩
    have hb5 := below_putObj (m := w.heap.size + 1 + 1 + 1) (W.setCell ⟨w.heap.size + 1 + 1, 0, none⟩ (.int .i64 e)) D (.deferred none) (by omega) (by have := hf.size; have := HI.out.sz; omega)
    have hc5 := (var_below (HI.out.o.set (.int .i64 e)) hb5 (by omega)).cell
    refine ⟨.int .i64 e, ?_, by rw [He.out]; rfl, (HI.out.b.setCell (by exact Nat.le_trans (Nat.le_succ _) (Nat.le_succ _)) _).trans (hb5.mono (by omega))⟩
    simp [results, Try.f77, go_sem, hc5]
  case stop =>
    rintro D c W hD ⟨rfl, ho, hb⟩ hK
    generalize hZ : rightP x e xs = z at ho
    have HZ := Lib.hid hZ
    have Hb := Lib.hid hb; have HK := Lib.hid hK; have Ho := Lib.hid ho
    clear ho hb hK hZ
    gi_wp2
    refine ⟨by simp, .inl ⟨_, _, rfl, run_takeDeferred HK.out, ?_⟩⟩
    have hb5 := below_putObj (m := w.heap.size + 1 + 1 + 1) W D (.deferred none) (by omega) (by have := heap_lt HK.out; omega)
    have hc5 := (var_below Ho.out hb5 (by omega)).cell
    refine ⟨.int .i64 z, ?_, by rw [HZ.out], Hb.out.trans (hb5.mono (by omega))⟩
    simp [results, Try.f77, go_sem, hc5]

end Go.Proofs.Ytibmnkdeepmabaa
