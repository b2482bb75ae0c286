/- shift.Kept: where a byte that is kept lies. Condition: the pieces and the number read as values of their types. -/
import Derived.Test.YtdlbjfgpfjcpaaaShift1
namespace Go.Proofs.Ytdlbjfgpfjcpaaa
open Go.RowKit Go.Shelf
attribute [local go_sem] Oper.semAt_some

def keptE (l : List Pc) (x : Int) : Int := if errL l = 0 then (if x < 0 ∨ inL l ≤ x then 3 else 0) else errL l
def keptR (l : List Pc) (x : Int) : Option Int := if keptE l x = 0 then keptP x (runsT false l) else none
def optV (o : Option Int) : Int := o.getD 0
def keptV (l : List Pc) (x : Int) : Value := .tuple #[.int .i64 (optV (keptR l x)), .bool (keptR l x).isSome, .int .i64 (keptE l x)]

/-- Kept's variables: the number, the three results -/
structure KV (w : World) (x a : Int) (b : Bool) (c : Int) (W : World) : Prop where
  x : Var W w.heap.size 3 (.int .i64 x)
  a : Var W (w.heap.size + 1) 3 (.int .i64 a)
  b : Var W (w.heap.size + 1 + 1) 4 (.bool b)
  c : Var W (w.heap.size + 1 + 1 + 1) 26 (.int .i64 c)
  bel : Below w.heap.size w W
  sz : w.heap.size + 1 + 1 + 1 + 1 ≤ W.heap.size
theorem KV.keep {w : World} {x a : Int} {b : Bool} {c : Int} {C D : World} (h : KV w x a b c C) (hb : Below (w.heap.size + 1 + 1 + 1 + 1) C D) : KV w x a b c D :=
  ⟨var_below h.x hb (by omega), var_below h.a hb (by omega), var_below h.b hb (by omega), var_below h.c hb (by omega), h.bel.trans (hb.mono (by omega)), Nat.le_trans h.sz hb.size⟩
def kvSet (w : World) (a : Int) (b : Bool) (c : Int) (W : World) : World :=
  ((W.setCell ⟨w.heap.size + 1, 0, none⟩ (.int .i64 a)).setCell ⟨w.heap.size + 1 + 1, 0, none⟩ (.bool b)).setCell ⟨w.heap.size + 1 + 1 + 1, 0, none⟩ (.int .i64 c)
theorem KV.set {w : World} {x a : Int} {b : Bool} {c : Int} {W : World} (h : KV w x a b c W) (a' : Int) (b' : Bool) (c' : Int) :
    KV w x a' b' c' (kvSet w a' b' c' W) ∧ Fr (betw w.heap.size (w.heap.size + 1 + 1 + 1 + 1)) W (kvSet w a' b' c' W) := by
  obtain ⟨h1, h2, h3, h4, h5, h6⟩ := h
  have f1 : Fr (· = w.heap.size + 1) W (W.setCell ⟨w.heap.size + 1, 0, none⟩ (.int .i64 a')) := Fr.setCell _ W ⟨w.heap.size + 1, 0, none⟩ _ rfl
  have f2 : Fr (· = w.heap.size + 1 + 1) (W.setCell ⟨w.heap.size + 1, 0, none⟩ (.int .i64 a')) ((W.setCell ⟨w.heap.size + 1, 0, none⟩ (.int .i64 a')).setCell ⟨w.heap.size + 1 + 1, 0, none⟩ (.bool b')) := Fr.setCell _ _ ⟨w.heap.size + 1 + 1, 0, none⟩ _ rfl
  have f3 : Fr (· = w.heap.size + 1 + 1 + 1) ((W.setCell ⟨w.heap.size + 1, 0, none⟩ (.int .i64 a')).setCell ⟨w.heap.size + 1 + 1, 0, none⟩ (.bool b')) (kvSet w a' b' c' W) := Fr.setCell _ _ ⟨w.heap.size + 1 + 1 + 1, 0, none⟩ _ rfl
  refine ⟨⟨((h1.keep f1 (by omega)).keep f2 (by omega)).keep f3 (by omega), ((h2.set _).keep f2 (by omega)).keep f3 (by omega), (((h3.keep f1 (by omega)).set _).keep f3 (by omega)), ((h4.keep f1 (by omega)).keep f2 (by omega)).set _, ?_, ?_⟩, ?_⟩
  · exact ((h5.setCell (by exact Nat.le_succ _) _).setCell (by exact Nat.le_trans (Nat.le_succ _) (Nat.le_succ _)) _).setCell (by exact Nat.le_trans (Nat.le_trans (Nat.le_succ _) (Nat.le_succ _)) (Nat.le_succ _)) _
  · have := f1.size; have := f2.size; have := f3.size; omega
  · exact ((f1.mono fun i _ hi => by unfold betw; omega).trans (f2.mono fun i _ hi => by unfold betw; omega)).trans (f3.mono fun i _ hi => by unfold betw; omega)

structure KeptX (w : World) (x : Int) (xs : List Rn) (c : Code) (W : World) : Prop where
  c : c = .ret
  v : ∃ z, keptP x xs = some z ∧ KV w x z true 0 W

set_option maxRecDepth 100000 in
set_option maxHeartbeats 2000000 in
theorem kept_any (v : Value) (l : List Pc) (x : Int) (w : World) (h : Sl pcE w v l) (hd : ∀ p, p ∈ l → p.wf) :
    Calls Try.prog 80 #[v, .int .i64 x] w fun e w' => e = .returned (keptV l x) ∧ Below w.heap.size w w' := by
  have hc := fun w h => lengths_any v l w h hd
  obtain ⟨A, cap, rfl, -, -, -⟩ := id h
  have hV0 : KV w x 0 false 0 ((((w.alloc (.cells #[.int .i64 x] 3)).alloc (.cells #[.int .i64 0] 3)).alloc (.cells #[.bool false] 4)).alloc (.cells #[.int .i64 0] 26)) := by
    have fr : ∀ (W : World) (o : Obj), Fr (fun _ => False) W (W.alloc o) := fun W o => Fr.alloc _ W o
    have v1 := Var.new w 3 (.int .i64 x)
    have v2 := Var.new (w.alloc (.cells #[.int .i64 x] 3)) 3 (.int .i64 0)
    have v3 := Var.new ((w.alloc (.cells #[.int .i64 x] 3)).alloc (.cells #[.int .i64 0] 3)) 4 (.bool false)
    have v4 := Var.new (((w.alloc (.cells #[.int .i64 x] 3)).alloc (.cells #[.int .i64 0] 3)).alloc (.cells #[.bool false] 4)) 26 (.int .i64 0)
    simp only [World.size_alloc] at v2 v3 v4
    exact ⟨((v1.keep (fr _ _) id).keep (fr _ _) id).keep (fr _ _) id, (v2.keep (fr _ _) id).keep (fr _ _) id, v3.keep (fr _ _) id, v4, ((((Below.refl _ w).alloc (Nat.le_refl _) _).alloc (by simp) _).alloc (by simp; omega) _).alloc (by simp; omega) _, by simp⟩
  by_cases h0 : errL l = 0
  · rw [lensV_ok h0] at hc
    obtain ⟨m1, m2, m3, m4⟩ := mod_io h0
    by_cases h1 : x < 0 ∨ inL l ≤ x
    · have e1 : keptE l x = 3 := by rw [keptE, if_pos h0, if_pos h1]
      have e2 : keptR l x = none := by rw [keptR, e1, if_neg (by omega)]
      have hkv : keptV l x = .tuple #[.int .i64 0, .bool false, .int .i64 3] := by rw [keptV, e1, e2]; rfl
      have Hkv := Lib.hid hkv
      have hS0 := ((((h.alloc (.cells #[.int .i64 x] 3)).alloc (.cells #[.int .i64 0] 3)).alloc (.cells #[.bool false] 4)).alloc (.cells #[.int .i64 0] 26))
      generalize inL l = n at *
      have Hc := Lib.hid (hc _ hS0); have HV0 := Lib.hid hV0
      clear hc e1 e2 hkv h0 hd hS0 hV0 h
      have fin : ∀ W0, KV w x 0 false 0 W0 → Hid (KV w x 0 false 3 (kvSet w 0 false 3 W0)) := fun W0 h => Lib.hid (h.set 0 false 3).1
      by_cases h2 : x < 0
      all_goals
        first
        | have h3 : n ≤ x := by omega
        | skip
        clear h1
        go_enter Try.func80, Try.ntmps80
        go_wp2_with fail
        refine (Hc.out).mono ?_
        rintro e W0 ⟨rfl, hb0⟩
        have HV := Lib.hid (HV0.out.keep (hb0.mono (by simp)))
        have Q1 := fin _ HV.out
        clear hb0 Hc HV0 fin
        have kx := HV.out.x.cell
        have ka := HV.out.a.cell
        have kb := HV.out.b.cell
        have kc := HV.out.c.cell
        have fa := HV.out.a.frozen
        have fb := HV.out.b.frozen
        have fc := HV.out.c.frozen
        have l1 := HV.out.sz
        go_wp2
        have c1 := Q1.out.a.cell
        have c2 := Q1.out.b.cell
        have c3 := Q1.out.c.cell
        unfold kvSet at c1 c2 c3
        exact bodyPost_ret (v := .tuple #[.int .i64 0, .bool false, .int .i64 3]) (by simp [results, Try.f80, go_sem, c1, c2, c3]) rfl ⟨by rw [Hkv.out], Q1.out.bel⟩
    · have e1 : keptE l x = 0 := by rw [keptE, if_pos h0, if_neg h1]
      have e2 : keptR l x = keptP x (runsT false l) := by rw [keptR, e1, if_pos rfl]
      have hit := fun w' hb => runs_iter (.slice A l.length cap) l false w w' h (mod_of h0) hb
      have hok := runs_ok (mod_of h0) false
      generalize hxs : runsT false l = xs at *
      have hkv : keptV l x = .tuple #[.int .i64 (optV (keptP x xs)), .bool (keptP x xs).isSome, .int .i64 0] := by rw [keptV, e1, e2]
      have Hkv := Lib.hid hkv
      have hS0 := ((((h.alloc (.cells #[.int .i64 x] 3)).alloc (.cells #[.int .i64 0] 3)).alloc (.cells #[.bool false] 4)).alloc (.cells #[.int .i64 0] 26))
      generalize inL l = n at *
      have g1 : ¬ x < 0 := by omega
      have g2 : ¬ n ≤ x := by omega
      generalize l.length = len at *
      have Hc := Lib.hid (hc _ hS0); have HV0 := Lib.hid hV0
      clear hc e1 e2 hkv h0 h1 hd hxs hS0 hV0 h
      refine (callsIn_wide (n := 9)).1 ?_
      refine callsIn_of_wp_marks Try.func80 rfl trivial ?_ rfl
      simp only [Try.ntmps80, List.size_toArray, List.length_cons, List.length_nil, Nat.reduceAdd, Nat.reduceSub, Array.replicate_succ, Array.replicate_zero, List.push_toArray, List.append_toArray, List.nil_append, List.cons_append]
      gi_wp2_with fail
      refine ⟨trivial, (callsIn_wide.2 Hc.out).mono ?_⟩
      rintro e W0 ⟨rfl, hb0⟩
      have HV := Lib.hid (HV0.out.keep (hb0.mono (by simp)))
      clear hb0 Hc HV0
      have k0 := HV.out.x.cell
      have kl := HV.out.sz
      gi_wp2_with fail
      have hz0 : w.heap.size + 1 + 1 + 1 + 1 ≤ W0.heap.size := HV.out.sz
      refine wpIn_rangeMethod (n₀ := w.heap.size) (xs := xs) (gf := 111) (fb := #[.agg #[.slice A len cap, .bool false]]) (encs := fun r : Rn => #[r.v]) rfl (enters_of Try.func111 (by kernel_rfl) rfl) (hit _ HV.out.bel) (fun _ => rfl)
        (fun k W => KV w x 0 false 0 W ∧ keptP x xs = keptP x (xs.drop k) ∧ W0.heap.size ≤ W.heap.size) (KeptX w x xs) ?hI ?hIx ?hIb ?h0 ?round ?done ?stop
      case hI => exact fun k C D hc hb _ => ⟨hc.1.keep (hb.mono (by omega)), hc.2.1, Nat.le_trans hc.2.2 hb.size⟩
      case hIx => exact fun c C D hc hb _ => ⟨hc.c, by obtain ⟨z, h1, h2⟩ := hc.v; exact ⟨z, h1, h2.keep (hb.mono (by omega))⟩⟩
      case hIb => exact fun k C hc => below_from HV.out.bel hc.1.bel hc.2.2
      case h0 => exact ⟨HV.out, rfl, Nat.le_refl _⟩
      case round =>
        intro l k r W hr hi hz
        obtain ⟨ra, ro, rn⟩ := r
        obtain ⟨r1, r2, r3, r4, r5, r6⟩ := hok _ (List.mem_of_getElem? hr)
        dsimp only at r1 r2 r3 r4 r5 r6
        clear hi
        dsimp only [Rn.v]
        clear k0
        gi_wp2_with fail
        refine ⟨(Below.refl _ _).alloc (Nat.le_refl _) _, ?_⟩
        rintro W2 hf hs2 ⟨hkv2, he, hsz⟩
        have g : W2.heap[W.heap.size]? = some (.cells #[.int .i64 ra, .int .i64 ro, .int .i64 rn] 129 (0, 0)) := (hf.block _ (by simp) (by omega)).trans (heap_alloc_new W _)
        have k0 : W2.cell? ⟨W.heap.size, 0, none⟩ = some (.int .i64 ra) := by rw [Lib.cell_of_heap g]; rfl
        have k1 : W2.cell? ⟨W.heap.size, 1, none⟩ = some (.int .i64 ro) := by rw [Lib.cell_of_heap g]; rfl
        have k2 : W2.cell? ⟨W.heap.size, 2, none⟩ = some (.int .i64 rn) := by rw [Lib.cell_of_heap g]; rfl
        have kx := hkv2.x.cell
        have ka := hkv2.a.cell
        have kb := hkv2.b.cell
        have kc := hkv2.c.cell
        have fa := hkv2.a.frozen
        have fb := hkv2.b.frozen
        have fc := hkv2.c.frozen
        have l0 := heap_lt g
        have l1 := hkv2.sz
        have hdr : xs.drop k = ⟨ra, ro, rn⟩ :: xs.drop (k + 1) := by
          obtain ⟨hk, e⟩ := List.getElem?_eq_some_iff.1 hr
          rw [List.drop_eq_getElem_cons hk, e]
        have Hdr := Lib.hid hdr; have HK2 := Lib.hid hkv2; have He := Lib.hid he
        clear hf hs2 g hdr hr hkv2 he
        by_cases hx : ra ≤ x
        · by_cases hy : x < ra + rn
          · have hL : keptP x xs = some (ro + x - ra) := by rw [He.out, Hdr.out, keptP, if_pos ⟨hx, hy⟩]
            have HL := Lib.hid hL; clear hL
            obtain ⟨q1, q2⟩ := HK2.out.set (ro + x - ra) true 0
            have Q1 := Lib.hid q1; have Q2 := Lib.hid q2
            clear q1 q2
            gi_wp2
            exact ⟨Q2.out.mono fun i _ hi => by unfold betw at hi ⊢; omega, rfl, _, HL.out, Q1.out⟩
          · have hL : keptP x xs = keptP x (xs.drop (k + 1)) := by rw [He.out, Hdr.out, keptP, if_neg (show ¬ (ra ≤ x ∧ x < ra + rn) by omega)]
            have HL := Lib.hid hL; clear hL
            gi_wp2
            exact ⟨Fr.refl _ _, HK2.out, HL.out, hsz⟩
        · have hL : keptP x xs = keptP x (xs.drop (k + 1)) := by rw [He.out, Hdr.out, keptP, if_neg (show ¬ (ra ≤ x ∧ x < ra + rn) by omega)]
          have HL := Lib.hid hL; clear hL
          gi_wp2
          exact ⟨Fr.refl _ _, HK2.out, HL.out, hsz⟩
      case done =>
        rintro D W hD ⟨hkv2, he, hsz⟩ hK
        rw [List.drop_length] at he
        have He := Lib.hid he
        have ka := hkv2.a.cell
        have kb := hkv2.b.cell
        have kc := hkv2.c.cell
        have fa := hkv2.a.frozen
        have fb := hkv2.b.frozen
        have fc := hkv2.c.frozen
        have l1 := hkv2.sz
        obtain ⟨q1, q2⟩ := hkv2.set 0 false 0
        have Q1 := Lib.hid q1; have Q2 := Lib.hid q2; have HK := Lib.hid hK
        clear he hkv2 hK q1 q2 k0
        gi_wp2
        have hK' := (Q2.out.block D (heap_lt HK.out) (by unfold betw; omega)).trans HK.out
        refine ⟨by simp, .inl ⟨_, _, rfl, run_takeDeferred hK', ?_⟩⟩
        have hb5 := below_putObj (m := w.heap.size + 1 + 1 + 1 + 1) (kvSet w 0 false 0 W) D (.deferred none) (by omega) Q1.out.sz
        have Q5 := Q1.out.keep hb5
        have c1 := Q5.a.cell
        have c2 := Q5.b.cell
        have c3 := Q5.c.cell
        unfold kvSet at c1 c2 c3
        refine ⟨.tuple #[.int .i64 0, .bool false, .int .i64 0], ?_, ?_, Q5.bel⟩
        · simp [results, Try.f80, go_sem, c1, c2, c3]
        · have e : keptP x xs = none := He.out
          rw [Hkv.out, e]
          rfl
      case stop =>
        rintro D c W hD ⟨rfl, z, he, hkv2⟩ hK
        have He := Lib.hid he; have HK2 := Lib.hid hkv2; have HK := Lib.hid hK
        have l1 := hkv2.sz
        clear he hkv2 hK k0
        gi_wp2
        refine ⟨by simp, .inl ⟨_, _, rfl, run_takeDeferred HK.out, ?_⟩⟩
        have hb5 := below_putObj (m := w.heap.size + 1 + 1 + 1 + 1) W D (.deferred none) (by omega) l1
        have Q5 := HK2.out.keep hb5
        have c1 := Q5.a.cell
        have c2 := Q5.b.cell
        have c3 := Q5.c.cell
        refine ⟨.tuple #[.int .i64 z, .bool true, .int .i64 0], ?_, ?_, Q5.bel⟩
        · simp [results, Try.f80, go_sem, c1, c2, c3]
        · rw [Hkv.out, He.out]
          rfl
  · have hl := lens_err h0
    have e1 : keptE l x = errL l := by rw [keptE, if_neg h0]
    have e2 : keptR l x = none := by rw [keptR, e1, if_neg h0]
    have hkv : keptV l x = .tuple #[.int .i64 0, .bool false, .int .i64 (errL l)] := by rw [keptV, e1, e2]; rfl
    have hb : (errL l != 0) = true := by simpa using h0
    rw [show lensV l = .tuple #[.int .i64 0, .int .i64 0, .int .i64 (errL l)] by unfold lensV; rw [hl]; rfl] at hc
    generalize errL l = E at *
    have hS0 := ((((h.alloc (.cells #[.int .i64 x] 3)).alloc (.cells #[.int .i64 0] 3)).alloc (.cells #[.bool false] 4)).alloc (.cells #[.int .i64 0] 26))
    have Hkv := Lib.hid hkv
    have Hc := Lib.hid (hc _ hS0); have HV0 := Lib.hid hV0
    clear hc e1 e2 hkv h0 hd hS0 hV0 h hl
    have fin : ∀ W0, KV w x 0 false 0 W0 → Hid (KV w x 0 false E (kvSet w 0 false E W0)) := fun W0 h => Lib.hid (h.set 0 false E).1
    go_enter Try.func80, Try.ntmps80
    go_wp2_with fail
    refine (Hc.out).mono ?_
    rintro e W0 ⟨rfl, hb0⟩
    have HV := Lib.hid (HV0.out.keep (hb0.mono (by simp)))
    have Q1 := fin _ HV.out
    clear hb0 Hc HV0 fin
    have kx := HV.out.x.cell
    have ka := HV.out.a.cell
    have kb := HV.out.b.cell
    have kc := HV.out.c.cell
    have fa := HV.out.a.frozen
    have fb := HV.out.b.frozen
    have fc := HV.out.c.frozen
    have l1 := HV.out.sz
    go_wp2
    have c1 := Q1.out.a.cell
    have c2 := Q1.out.b.cell
    have c3 := Q1.out.c.cell
    unfold kvSet at c1 c2 c3
    exact bodyPost_ret (v := .tuple #[.int .i64 0, .bool false, .int .i64 E]) (by simp [results, Try.f80, go_sem, c1, c2, c3]) rfl ⟨by rw [Hkv.out], Q1.out.bel⟩

end Go.Proofs.Ytdlbjfgpfjcpaaa
