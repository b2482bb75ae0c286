/- shift.look.left: where a position moves by the bytes before it. Condition: valid pieces of moderate size. -/
import Derived.Test.YtibmnkdeepmabaaRuns
import Derived.Test.YtibmnkdeepmabaaForm
import Derived.RangeFuncBound
import Derived.RangeFuncCalls
import Derived.Shelf.RegionOpen
namespace Go.Proofs.Ytibmnkdeepmabaa
open Go.RowKit Go.Shelf
attribute [local go_sem] Oper.semAt_some

def Rn.ok (r : Rn) : Prop := 0 ≤ r.a ∧ r.a ≤ 1000000000000 ∧ 0 ≤ r.o ∧ r.o ≤ 1000000000000 ∧ 0 ≤ r.n ∧ r.n ≤ 1048576
theorem runs_ok {l : List Pc} (h : Mod l) (t : Bool) : ∀ r ∈ runsT t l, r.ok := by
  have key : ∀ k, k ≤ l.length → ∀ r ∈ runsT t (l.take k), r.ok := by
    intro k
    induction k with
    | zero => intro _ r hr; cases t <;> simp [runsT, runsS] at hr
    | succ k ih =>
      intro hk r hr
      have hlt : k < l.length := by omega
      rw [List.take_succ_eq_append_getElem hlt, runsT_snoc t (l.take k) l[k] (fun p hp => h.1 p (List.mem_of_mem_take hp)) (h.1 _ (List.getElem_mem hlt)), List.mem_append] at hr
      rcases hr with hr | hr
      · exact ih (by omega) r hr
      · obtain ⟨b1, b2, b3, b4⟩ := h.bd k
        obtain ⟨d1, d2, d3⟩ := h.2.2 l[k] (List.getElem_mem hlt)
        split at hr
        · rw [List.mem_singleton] at hr
          subst hr
          cases t
          · exact ⟨b1, b2, b3, b4, d1, d2⟩
          · exact ⟨b3, b4, b1, b2, d1, d2⟩
        · cases hr
  have := key l.length (Nat.le_refl _)
  rwa [List.take_length] at this

/-- between two rounds of left -/
structure LeftI (w : World) (x : Int) (xs : List Rn) (k : Nat) (W : World) : Prop where
  ex : ∃ o : Int, Var W (w.heap.size + 1 + 1) 3 (.int .i64 o) ∧ Var W (w.heap.size + 1) 3 (.int .i64 x) ∧ leftP x 0 xs = leftP x o (xs.drop k) ∧ 0 ≤ o ∧ o ≤ 2000000000000 ∧ Below w.heap.size w W ∧ w.heap.size + 1 + 1 + 1 ≤ W.heap.size
/-- where a round of left has ended the loop -/
structure LeftX (w : World) (x : Int) (xs : List Rn) (c : Code) (W : World) : Prop where
  c : c = .exit 0
  o : Var W (w.heap.size + 1 + 1) 3 (.int .i64 (leftP x 0 xs))
  b : Below w.heap.size w W
theorem var_below {C D : World} {b m : Nat} {t : TypeId} {v : Value} (h : Var C b t v) (hb : Below m C D) (hl : b < m) : Var D b t v := (hb.block b hl).trans h
theorem LeftI.keep {w : World} {x : Int} {xs : List Rn} {k : Nat} {C D : World} (h : LeftI w x xs k C) (hb : Below (w.heap.size + 1 + 1 + 1) C D) : LeftI w x xs k D := by
  obtain ⟨o, h1, h2, h3, h4, h5, h6, h7⟩ := h.ex
  exact ⟨o, var_below h1 hb (by omega), var_below h2 hb (by omega), h3, h4, h5, h6.trans (hb.mono (by omega)), Nat.le_trans h7 hb.size⟩
theorem below_from {m : Nat} {w C D : World} (h : Below m w C) (k : Below m w D) (hz : C.heap.size ≤ D.heap.size) : Below m C D :=
  ⟨k.os.trans h.os.symm, k.tape.trans h.tape.symm, k.output.trans h.output.symm, hz, fun j hj => (k.block j hj).trans (h.block j hj).symm⟩
theorem LeftX.keep {w : World} {x : Int} {xs : List Rn} {c : Code} {C D : World} (h : LeftX w x xs c C) (hb : Below (w.heap.size + 1 + 1 + 1) C D) : LeftX w x xs c D :=
  ⟨h.c, var_below h.o hb (by omega), h.b.trans (hb.mono (by omega))⟩

set_option maxRecDepth 100000 in
set_option maxHeartbeats 2000000 in
theorem left_any (v : Value) (l : List Pc) (t : Bool) (x : Int) (w : World) (h : Sl pcE w v l) (hl : Mod l) (h0 : 0 ≤ x) (h1 : x ≤ 10000000000000) :
    Calls Try.prog 76 #[.agg #[v, .bool t], .int .i64 x] w fun e w' => e = .returned (.int .i64 (leftP x 0 (runsT t l))) ∧ Below w.heap.size w w' := by
  have hit := fun w' hb => runs_iter v l t w w' h hl hb
  have hok := runs_ok hl t
  obtain ⟨A, cap, rfl, -, -, -⟩ := id h
  generalize runsT t l = xs at *
  generalize l.length = len at *
  refine (callsIn_wide (n := 9)).1 ?_
  refine callsIn_of_wp_marks Try.func76 rfl trivial ?_ rfl
  simp only [Try.ntmps76, List.size_toArray, List.length_cons, List.length_nil, Nat.reduceAdd, Nat.reduceSub, Array.replicate_succ, Array.replicate_zero, List.push_toArray, List.append_toArray, List.nil_append, List.cons_append]
  gi_wp2_with fail
  have hv1 := (Var.new (w.alloc (.cells #[.slice A len cap, .bool t] 84)) 3 (.int .i64 x)).keep (Fr.alloc (fun _ => False) _ (.cells #[.int .i64 0] 3)) id
  have hv2 := Var.new ((w.alloc (.cells #[.slice A len cap, .bool t] 84)).alloc (.cells #[.int .i64 x] 3)) 3 (.int .i64 0)
  simp only [World.size_alloc] at hv1 hv2
  have hB0 : Below w.heap.size w (((w.alloc (.cells #[.slice A len cap, .bool t] 84)).alloc (.cells #[.int .i64 x] 3)).alloc (.cells #[.int .i64 0] 3)) := (((Below.refl _ w).alloc (Nat.le_refl _) _).alloc (by simp) _).alloc (by simp; omega) _
  have hz0 : (((w.alloc (.cells #[.slice A len cap, .bool t] 84)).alloc (.cells #[.int .i64 x] 3)).alloc (.cells #[.int .i64 0] 3)).heap.size = w.heap.size + 1 + 1 + 1 := by simp
  generalize ((w.alloc (.cells #[.slice A len cap, .bool t] 84)).alloc (.cells #[.int .i64 x] 3)).alloc (.cells #[.int .i64 0] 3) = W0 at *
  refine wpIn_rangeMethod (n₀ := w.heap.size) (xs := xs) (gf := 89) (fb := #[.agg #[.slice A len cap, .bool t]]) (encs := fun r : Rn => #[r.v]) rfl (enters_of Try.func89 (by kernel_rfl) rfl) (hit _ hB0) (fun _ => rfl)
    (LeftI w x xs) (LeftX w x xs) ?hI ?hIx ?hIb ?h0 ?round ?done ?stop
  case hI => exact fun k C D hc hb _ => hc.keep (by rw [hz0] at hb; exact hb)
  case hIx => exact fun c C D hc hb _ => hc.keep (by rw [hz0] at hb; exact hb)
  case hIb =>
    intro k C hc
    obtain ⟨o, _, _, _, _, _, h6, h7⟩ := hc.ex
    exact below_from hB0 h6 (by omega)
  case h0 => exact ⟨0, hv2, hv1, rfl, by omega, by omega, hB0, by omega⟩
  case round =>
    intro l k r W hr hi hz
    obtain ⟨ra, ro, rn⟩ := r
    obtain ⟨r1, r2, r3, r4, r5, r6⟩ := hok _ (List.mem_of_getElem? hr)
    dsimp only at r1 r2 r3 r4 r5 r6
    have hIt := Lib.hid hi
    clear hi
    dsimp only [Rn.v]
    gi_wp2_with fail
    refine ⟨(Below.refl _ _).alloc (Nat.le_refl _) _, ?_⟩
    intro W2 hf hs2 hi2
    obtain ⟨o, v2, v1, he, ho1, ho2, hb2, hz2⟩ := hi2.ex
    have g : W2.heap[W.heap.size]? = some (.cells #[.int .i64 ra, .int .i64 ro, .int .i64 rn] 128 (0, 0)) := (hf.block _ (by simp) (by omega)).trans (heap_alloc_new W _)
    have k0 : W2.cell? ⟨W.heap.size, 0, none⟩ = some (.int .i64 ra) := by rw [Lib.cell_of_heap g]; rfl
    have k1 : W2.cell? ⟨W.heap.size, 1, none⟩ = some (.int .i64 ro) := by rw [Lib.cell_of_heap g]; rfl
    have k2 : W2.cell? ⟨W.heap.size, 2, none⟩ = some (.int .i64 rn) := by rw [Lib.cell_of_heap g]; rfl
    have k3 := v1.cell
    have k4 := v2.cell
    have k5 := v2.frozen
    have l0 := heap_lt g
    have V2 := Lib.hid v2; have V1 := Lib.hid v1; have He := Lib.hid he; have Hb2 := Lib.hid hb2; have Hz2 := Lib.hid hz2
    have hdr : xs.drop k = ⟨ra, ro, rn⟩ :: xs.drop (k + 1) := by
      obtain ⟨hk, e⟩ := List.getElem?_eq_some_iff.1 hr
      rw [List.drop_eq_getElem_cons hk, e]
    have Hdr := Lib.hid hdr
    clear hf hs2 hi2 g v1 v2 he hb2 hdr hr hIt
    by_cases hx : x ≤ ra
    · have hL : leftP x 0 xs = o := by rw [He.out, Hdr.out, leftP, if_pos hx]
      have HL := Lib.hid hL; clear hL
      gi_wp2
      exact ⟨Fr.refl _ _, rfl, by rw [HL.out]; exact V2.out, Hb2.out⟩
    · have hL : leftP x 0 xs = leftP x (ro + min rn (x - ra)) (xs.drop (k + 1)) := by rw [He.out, Hdr.out, leftP, if_neg hx]
      have HL := Lib.hid hL; clear hL
      have hst : ∀ z : Int, z = ro + min rn (x - ra) → Fr (betw w.heap.size (w.heap.size + 1 + 1 + 1)) W2 (W2.setCell ⟨w.heap.size + 1 + 1, 0, none⟩ (.int .i64 z)) ∧ LeftI w x xs (k + 1) (W2.setCell ⟨w.heap.size + 1 + 1, 0, none⟩ (.int .i64 z)) := fun z hz' => by
        have hf : Fr (· = w.heap.size + 1 + 1) W2 (W2.setCell ⟨w.heap.size + 1 + 1, 0, none⟩ (.int .i64 z)) := Fr.setCell _ W2 ⟨w.heap.size + 1 + 1, 0, none⟩ _ rfl
        refine ⟨hf.mono fun i _ hi => by unfold betw; omega, ⟨z, V2.out.set _, V1.out.keep hf (by omega), by rw [hz']; exact HL.out, by omega, by omega, Hb2.out.setCell (by exact Nat.le_trans (Nat.le_succ _) (Nat.le_succ _)) _, ?_⟩⟩
        have := hf.size
        have := Hz2.out
        omega
      have Hst := Lib.hid hst; clear hst
      gi_wp2
      · exact Hst.out _ (by omega)
      · exact Hst.out _ (by omega)
  case done =>
    intro D W hD hi hK
    obtain ⟨o, v2, v1, he, ho1, ho2, hb2, hz2⟩ := hi.ex
    rw [List.drop_length] at he
    have he' : leftP x 0 xs = o := he
    have He := Lib.hid he'
    have k4 := v2.cell
    have Hb2 := Lib.hid hb2; have HK := Lib.hid hK
    clear he he' hi hK v1 v2 hb2
    gi_wp2
    refine ⟨by simp, .inl ⟨_, _, rfl, run_takeDeferred HK.out, ?_⟩⟩
    exact ⟨_, results_tmp rfl _ _ _, by rw [He.out]; rfl, Hb2.out.trans (below_putObj _ _ _ (by omega) (by have := Hb2.out.size; omega))⟩
  case stop =>
    rintro D c W hD ⟨rfl, ho, hb⟩ hK
    have k4 := ho.cell
    generalize hZ : leftP x 0 xs = z at ho k4
    have HZ := Lib.hid hZ
    have Hb := Lib.hid hb; have HK := Lib.hid hK
    clear ho hb hK hZ
    gi_wp2
    refine ⟨by simp, .inl ⟨_, _, rfl, run_takeDeferred HK.out, ?_⟩⟩
    exact ⟨_, results_tmp rfl _ _ _, by rw [HZ.out]; rfl, Hb.out.trans (below_putObj _ _ _ (by omega) (by have := Hb.out.size; omega))⟩

end Go.Proofs.Ytibmnkdeepmabaa
