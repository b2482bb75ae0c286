/- package reach: counts. -/
import Derived.Test.YtclmjnobacepjaaGreatJ37
namespace Go.Proofs.YtclmjnobacepjaaGreat
open Go.RowKit

def rtE : Enc Rt := ⟨5, by decide, fun r => [.int .u64 r.at_, .int .i64 r.ht, .int .i64 r.b, .int .i64 r.r, .int .i64 r.n], fun _ => rfl, by intro x u h; simp at h; rcases h with rfl | rfl | rfl | rfl | rfl <;> rfl⟩
theorem infoRt : (Tryz.prog.info? 39).map (fun i => (i.zero, i.size, i.bytes)) = some (some (.agg #[.int .u64 0, .int .i64 0, .int .i64 0, .int .i64 0, .int .i64 0]), 5, 40) := by kernel_rfl
theorem rtOK : EOK rtE 32 39 := EOK.mk' Tryz.underlying32 infoRt rfl rfl (by omega)
theorem Sl.rt {w : World} {v : Value} {l : List Rt} (h : Sl rtE w v l) {k : Nat} (hk : k < l.length) :
    ∃ b off cap, v = .slice (some ⟨b, off, none⟩) l.length cap ∧ b < w.heap.size ∧ ∀ w', Below w.heap.size w w' → w'.cell? ⟨b, off + k * 5, none⟩ = some (.int .u64 l[k].at_) ∧ w'.cell? ⟨b, off + k * 5 + 1, none⟩ = some (.int .i64 l[k].ht) ∧ w'.cell? ⟨b, off + k * 5 + 2, none⟩ = some (.int .i64 l[k].b) ∧ w'.cell? ⟨b, off + k * 5 + 3, none⟩ = some (.int .i64 l[k].r) ∧ w'.cell? ⟨b, off + k * 5 + 4, none⟩ = some (.int .i64 l[k].n) := by
  obtain ⟨A, cap, rfl, h2, h3, h4⟩ := h
  obtain ⟨b, off, rfl, hb, hc⟩ := h4 (by omega)
  have hx : l[k]? = some l[k] := List.getElem?_eq_getElem hk
  exact ⟨b, off, cap, rfl, hb, fun w' hb' => ⟨(hb'.cell (p := ⟨b, _, none⟩) hb).trans (hc k 0 _ _ hx rfl), (hb'.cell (p := ⟨b, _, none⟩) hb).trans (hc k 1 _ _ hx rfl), (hb'.cell (p := ⟨b, _, none⟩) hb).trans (hc k 2 _ _ hx rfl), (hb'.cell (p := ⟨b, _, none⟩) hb).trans (hc k 3 _ _ hx rfl), (hb'.cell (p := ⟨b, _, none⟩) hb).trans (hc k 4 _ _ hx rfl)⟩⟩

theorem zeroInt (w : World) : (zeroValue 3).run Tryz.prog w = .ok (.int .i64 0) w := by
  obtain ⟨j0, hj, jz0, -, -⟩ := info_parts infoInt
  simp [zeroValue, typeInfo, hj, jz0, go_sem]

/-- block b counts the nodes of P, each at least once, at most m times, m keys at most -/
def CtM (w : World) (b m : Nat) (P : Nat → Prop) : Prop := ∃ f n, MapIs w b f n ∧ n ≤ m ∧ (∀ k : Int, (f k).isSome = true ↔ ∃ i : Nat, P i ∧ k = (hd i : Nat)) ∧ ∀ k v, f k = some v → ∃ c : Nat, v = .int .i64 c ∧ 1 ≤ c ∧ c ≤ m
theorem CtM.keep {w w' : World} {b m : Nat} {P : Nat → Prop} (h : CtM w b m P) (hk : w'.heap[b]? = w.heap[b]?) : CtM w' b m P := by
  obtain ⟨f, n, h1, h2⟩ := h
  exact ⟨f, n, h1.keep hk, h2⟩
theorem CtM.lt {w : World} {b m : Nat} {P : Nat → Prop} (h : CtM w b m P) : b < w.heap.size := by
  obtain ⟨f, n, h1, h2⟩ := h
  exact h1.lt
theorem CtM.ext {w w' : World} {b m B : Nat} {P : Nat → Prop} (h : CtM w b m P) (hb : Below B w w') (hB : b < B) : CtM w' b m P := h.keep (hb.block b hB)
theorem CtM.le {w : World} {b m m' : Nat} {P : Nat → Prop} (h : CtM w b m P) (hm : m ≤ m') : CtM w b m' P := by
  obtain ⟨f, n, h1, h2, h3, h4⟩ := h
  exact ⟨f, n, h1, by omega, h3, fun k v q => by obtain ⟨c, e, a, b⟩ := h4 k v q; exact ⟨c, e, a, by omega⟩⟩
theorem CtM.congr {w : World} {b m : Nat} {P Q : Nat → Prop} (h : CtM w b m P) (e : ∀ i, P i ↔ Q i) : CtM w b m Q := by
  obtain ⟨f, n, h1, h2, h3, h4⟩ := h
  exact ⟨f, n, h1, h2, fun k => (h3 k).trans ⟨fun ⟨i, a, b⟩ => ⟨i, (e i).1 a, b⟩, fun ⟨i, a, b⟩ => ⟨i, (e i).2 a, b⟩⟩, h4⟩
theorem CtM.made (w : World) : CtM (w.alloc (.map #[] 0)) w.heap.size 0 (fun _ => False) :=
  ⟨_, _, MapIs.made w, Nat.le_refl _, fun k => by simp, fun k v q => by cases q⟩
theorem mkMapC (W : World) : (Instr.makeMap 87 none).run Tryz.prog W = .ok (.map (some W.heap.size)) (W.alloc (.map #[] 0)) := by
  simp [Instr.makeMap, go_sem, Tryz.underlying87]
/-- m[h] -/
theorem CtM.look {w : World} {b m : Nat} {P : Nat → Prop} (h : CtM w b m P) {i : Nat} (hi : i ≤ 16384) : ∃ c : Nat, c ≤ m ∧ (Instr.lookup 87 (.map (some b)) (.int .u64 (hd i : Nat)) false).run Tryz.prog w = .ok (.int .i64 c) w := by
  obtain ⟨f, n, h1, h2, h3, h4⟩ := h
  have := h1.look Tryz.underlying87 (zeroInt w) (inH_hd hi)
  cases e : f (hd i : Nat) with
  | none => rw [e] at this; exact ⟨0, Nat.zero_le _, this⟩
  | some v =>
    obtain ⟨c, rfl, a, b⟩ := h4 _ _ e
    rw [e] at this
    exact ⟨c, b, this⟩
/-- m[h] = c -/
theorem CtM.store {w : World} {b m : Nat} {P : Nat → Prop} (h : CtM w b m P) (hm : m ≤ 1000000) {i : Nat} (hi : i ≤ 16384) {c : Nat} (hc : 1 ≤ c) (hc2 : c ≤ m + 1) :
    ∃ w', (Instr.mapUpdate 87 (.map (some b)) (.int .u64 (hd i : Nat)) (.int .i64 c)).run Tryz.prog w = .ok () w' ∧ CtM w' b (m + 1) (fun x => P x ∨ x = i) ∧ w.grownBy w' (some b) ∧ w'.heap.size = w.heap.size := by
  obtain ⟨f, n, h1, h2, h3, h4⟩ := h
  obtain ⟨w', q1, q2, q3, q4⟩ := h1.store (by omega) Tryz.underlying87 (inH_hd hi) (.int .i64 c)
  refine ⟨w', q1, ⟨_, _, q2, by split <;> omega, fun k => ?_, fun k v q => ?_⟩, q3, q4⟩
  · unfold upd
    by_cases e : k = (hd i : Nat)
    · rw [if_pos e]
      exact ⟨fun _ => ⟨i, .inr rfl, e⟩, fun _ => rfl⟩
    · rw [if_neg e, h3 k]
      refine ⟨fun ⟨x, a, b⟩ => ⟨x, .inl a, b⟩, fun ⟨x, a, b⟩ => ?_⟩
      rcases a with a | rfl
      · exact ⟨x, a, b⟩
      · exact absurd b e
  · unfold upd at q
    by_cases e : k = (hd i : Nat)
    · rw [if_pos e] at q
      cases q
      exact ⟨c, rfl, hc, hc2⟩
    · rw [if_neg e] at q
      obtain ⟨c', e', a, b⟩ := h4 _ _ q
      exact ⟨c', e', a, by omega⟩

set_option maxHeartbeats 4000000 in
set_option maxRecDepth 100000 in
theorem counts_any (A : AF) (G : Ar) (rs : List Rt) (Av : Option Addr) (cv : Nat) (w : World) (hA : ArM w A G) (hs : Sl rtE w (.slice Av rs.length cv) rs) (hr : ∀ r ∈ rs, ∃ T, RV G r T) (hl : rs.length ≤ 100) :
    Calls Tryz.prog 24 #[.pointer (some ⟨A.ba, 0, none⟩), .slice Av rs.length cv] w fun e w' => ∃ b, e = .returned (.tuple #[.map (some b), .int .i64 0]) ∧ w.heap.size ≤ b ∧ CtM w' b 100000 (fun x => ∃ r ∈ rs, RtR G r x) ∧ Below w.heap.size w w' := by
  have CK := Lib.hid (fun r (q : r ∈ rs) W (p : Below w.heap.size w W) => (show Calls Tryz.prog 8 #[.pointer (some ⟨A.ba, 0, none⟩), .agg #[.int .u64 r.at_, .int .i64 r.ht, .int .i64 r.b, .int .i64 r.r, .int .i64 r.n]] W fun e w' => e = .returned (.int .i64 0) ∧ Below W.heap.size W w' from by
    obtain ⟨T, t⟩ := hr r q
    exact rcheck_any A G r T W (hA.ext p) t))
  have CN := Lib.hid (fun r (q : r ∈ rs) W (p : Below w.heap.size w W) => (show Calls Tryz.prog 19 #[.pointer (some ⟨A.ba, 0, none⟩), .agg #[.int .u64 r.at_, .int .i64 r.ht, .int .i64 r.b, .int .i64 r.r, .int .i64 r.n]] W fun e w' => ∃ Av cc, e = .returned (.tuple #[.slice Av (ndL G r).length cc, .int .i64 0]) ∧ Ow hndE w' W.heap.size 35 (.slice Av (ndL G r).length cc) ((ndL G r).map hd) ∧ Below W.heap.size W w' from by
    obtain ⟨T, t⟩ := hr r q
    exact nodes_call A G r T W (hA.ext p) t))
  have HLT := Lib.hid (fun r (q : r ∈ rs) => (show (∀ x ∈ ndL G r, x < 1000) ∧ (ndL G r).length ≤ 1000 ∧ ∀ x, x ∈ ndL G r ↔ RtR G r x from by
    obtain ⟨T, t⟩ := hr r q
    have h1 := fun x hx => Nat.lt_of_lt_of_le (ndL_lt hA.ok t x hx) hA.le
    exact ⟨h1, nodup_le (ndL_nodup G r) h1, ndL_mem hA.ok t⟩))
  have H := Lib.hid hs
  have hli : (rs.length : Int) ≤ 100 := by omega
  have hmm := mkMapC
  clear hA hr hs
  go_enter Tryz.func24, Tryz.ntmps24
  go_wp2_with fail
  go_loopw [20] (fun i wr => ∃ j : Nat, j ≤ rs.length ∧ i = .int .i64 j ∧ Hid (Below w.heap.size w wr)) (fun i _ => rs.length - (intOf i).toNat)
  case atStart => exact ⟨0, by omega, rfl, Lib.hid (Below.refl _ _)⟩
  case round =>
    obtain ⟨j, hj, rfl, HB⟩ := hrel
    by_cases hlt : j < rs.length
    · obtain ⟨b', off', cap', hv, hbl, hcc⟩ := H.out.rt (k := j) hlt
      obtain ⟨rfl, rfl⟩ : Av = some ⟨b', off', none⟩ ∧ cv = cap' := by injection hv with e1 e2 e3; exact ⟨e1, e3⟩
      obtain ⟨q0, q1, q2, q3, q4⟩ := hcc wr HB.out
      have hsz := HB.out.size
      have C1 := Lib.hid (CK.out _ (List.getElem_mem hlt))
      have hji : (j : Int) < (rs.length : Int) := by omega
      clear hcc hv
      generalize rs[j] = r at *
      obtain ⟨ro, rh, rb, rr, rn⟩ := r
      simp only at q0 q1 q2 q3 q4 C1
      go_wp2_with fail
      refine (C1.out _ (bal HB.out)).mono ?_
      rintro e w2 ⟨rfl, hb2⟩
      have HB2 := Lib.hid (bcall (bal HB.out) hb2)
      clear hb2 q0 q1 q2 q3 q4 C1
      go_wp2_with fail
      go_roundw
      case rel => exact ⟨j + 1, by omega, by go_num, HB2⟩
      case measure => simp [intOf]; omega
    · obtain rfl : j = rs.length := by omega
      clear CK
      have HC0 := Lib.hid (CtM.made wr)
      have HB0 := Lib.hid (bal HB.out (o := .map #[] 0))
      have hwr := HB.out.size
      clear HB hlt hj
      generalize wr = wm at *
      go_wp2_with fail
      go_loopw [34] (fun i wz => ∃ j : Nat, j ≤ rs.length ∧ i = .int .i64 j ∧ Hid (Below w.heap.size w wz) ∧ Hid (CtM wz wm.heap.size (j * 1000) (fun x => ∃ r ∈ rs.take j, RtR G r x))) (fun i _ => rs.length - (intOf i).toNat)
      case atStart => exact ⟨0, by omega, rfl, HB0, Lib.hid ((HC0.out.le (by omega)).congr fun i => by simp)⟩
      clear HC0 HB0
      case round =>
        obtain ⟨j, hj, rfl, HB, HC⟩ := hrel
        by_cases hlt : j < rs.length
        · obtain ⟨b', off', cap', hv, hbl, hcc⟩ := H.out.rt (k := j) hlt
          obtain ⟨rfl, rfl⟩ : Av = some ⟨b', off', none⟩ ∧ cv = cap' := by injection hv with e1 e2 e3; exact ⟨e1, e3⟩
          obtain ⟨q0, q1, q2, q3, q4⟩ := hcc wr HB.out
          have hsz := HB.out.size
          have hmb := HC.out.lt
          have C1 := Lib.hid (CN.out _ (List.getElem_mem hlt))
          have HL1 := Lib.hid (HLT.out _ (List.getElem_mem hlt))
          have hji : (j : Int) < (rs.length : Int) := by omega
          have HTK := Lib.hid (show rs.take (j + 1) = rs.take j ++ [rs[j]] by rw [List.take_add_one, List.getElem?_eq_getElem hlt]; rfl)
          clear hcc hv
          generalize rs[j] = r at *
          obtain ⟨ro, rh, rb, rr, rn⟩ := r
          simp only at q0 q1 q2 q3 q4 C1
          go_wp2_with fail
          refine (C1.out _ (bal HB.out)).mono ?_
          rintro e w2 ⟨A2, c2, rfl, ho, hb2⟩
          generalize ndL G ⟨ro, rh, rb, rr, rn⟩ = L at *
          have hz2 := hb2.size
          have HO := Lib.hid ho
          have HB2 := Lib.hid (bcall (bal HB.out) hb2)
          have HC2 := Lib.hid (HC.out.ext (bcall (bal (Below.refl _ _)) hb2) HC.out.lt)
          have hl1 : (L.length : Int) ≤ 1000 := by have := HL1.out.2.1; omega
          rw [World.size_alloc] at hz2
          clear hb2 q0 q1 q2 q3 q4 C1 ho HC HB
          go_wp2_with fail
          go_loopw [49] (fun i W => ∃ m : Nat, m ≤ L.length ∧ i = .int .i64 m ∧ Hid (FrT (fun k => k = wm.heap.size) w2 W) ∧ Hid (CtM W wm.heap.size (j * 1000 + m) (fun x => (∃ r ∈ rs.take j, RtR G r x) ∨ x ∈ L.take m))) (fun i _ => L.length - (intOf i).toNat)
          case atStart => exact ⟨0, by omega, rfl, Lib.hid (FrT.refl _ _), Lib.hid (HC2.out.congr fun i => by simp)⟩
          clear HC2
          case round =>
            obtain ⟨m, hm, rfl, HF, HC⟩ := hrel
            have hsw := HF.out.size
            by_cases hlm : m < L.length
            · have hO : Ow hndE wr 0 35 (.slice A2 L.length c2) (L.map hd) := (HO.out.kept fun g hg => HF.out.block g (HO.out.lt g hg).2 (fun e => by have := (HO.out.lt g hg).1; rw [World.size_alloc] at this; omega)).base (Nat.zero_le _)
              obtain ⟨b3, o3, cap3, hv3, hbl3, hcc3⟩ := hO.sl.hnd (k := m) (by simpa using hlm)
              rw [List.length_map] at hv3
              obtain ⟨rfl, rfl⟩ : A2 = some ⟨b3, o3, none⟩ ∧ c2 = cap3 := by injection hv3 with e1 e2 e3; exact ⟨e1, e3⟩
              have q0 := hcc3 wr (Below.refl _ _)
              rw [List.getElem_map] at q0
              have hk9 := HL1.out.1 _ (List.getElem_mem hlm)
              have HTM := Lib.hid (show L.take (m + 1) = L.take m ++ [L[m]] by rw [List.take_add_one, List.getElem?_eq_getElem hlm]; rfl)
              have hmi : (m : Int) < (L.length : Int) := by omega
              clear hcc3 hv3 hO
              generalize L[m] = k at *
              obtain ⟨c, hc, hlk⟩ := HC.out.look (i := k) (by omega)
              have hci : (c : Int) ≤ 1000000 := by have := HL1.out.2.1; omega
              obtain ⟨w5, hst, hc5, hg5, hs5⟩ := HC.out.store (by have := HL1.out.2.1; omega) (i := k) (by omega) (c := c + 1) (by omega) (by omega)
              rw [show ((c + 1 : Nat) : Int) = (c : Int) + 1 by omega] at hst
              have HC5 := Lib.hid hc5
              have HF5 := Lib.hid (HF.out.grown hg5 (fun k hk => .inl (Option.some.inj hk).symm))
              clear hc5 hg5 HC HF hs5
              go_wp2_with fail
              go_roundw
              case rel => exact ⟨m + 1, by omega, by go_num, HF5, Lib.hid (by
                rw [HTM.out]
                exact HC5.out.congr fun i => by simp [or_assoc])⟩
              case measure => simp [intOf]; omega
            · obtain rfl : m = L.length := by omega
              have HCL := Lib.hid (HC.out.le (m' := (j + 1) * 1000) (by have := HL1.out.2.1; omega))
              have HBL := Lib.hid (show Below w.heap.size w wr from ⟨HF.out.os.trans HB2.out.os, HF.out.tape.trans HB2.out.tape, HF.out.output.trans HB2.out.output, Nat.le_trans HB2.out.size HF.out.size, fun k hk => (HF.out.block k (Nat.lt_of_lt_of_le hk HB2.out.size) (by omega)).trans (HB2.out.block k hk)⟩)
              clear HC HF HB2
              go_wp2_with fail
              go_roundw
              case rel => exact ⟨j + 1, by omega, by go_num, HBL, Lib.hid (by
                rw [HTK.out]
                refine HCL.out.congr fun i => ?_
                rw [List.take_length]
                constructor
                · rintro (⟨r, a, b⟩ | q)
                  · exact ⟨r, List.mem_append.2 (.inl a), b⟩
                  · exact ⟨_, List.mem_append.2 (.inr (List.mem_singleton.2 rfl)), (HL1.out.2.2 i).1 q⟩
                · rintro ⟨r, a, b⟩
                  rcases List.mem_append.1 a with a | a
                  · exact .inl ⟨r, a, b⟩
                  · obtain rfl := List.mem_singleton.1 a
                    exact .inr ((HL1.out.2.2 i).2 b))⟩
              case measure => simp [intOf]; omega
        · obtain rfl : j = rs.length := by omega
          go_wp2_with fail
          go_ret2
          exact ⟨wm.heap.size, rfl, hwr, by
            have := HC.out.le (m' := 100000) (by omega)
            rw [List.take_length] at this
            exact this, HB.out⟩

end Go.Proofs.YtclmjnobacepjaaGreat

/- handle.Sort: its closure; slices.Clone and slices.Compact at handles; sorted lists. -/
namespace Go.Proofs.YtclmjnobacepjaaGreat
open Go.RowKit

def cfH (x y : Fin 1000) : Int := if x.1 < y.1 then -1 else if y.1 < x.1 then 1 else 0
def encH (x : Fin 1000) : Value := .int .u64 (hd x.1 : Nat)

set_option maxHeartbeats 1000000 in
set_option maxRecDepth 100000 in
theorem sortcl_any (x y : Fin 1000) (w : World) : Calls Tryz.prog 57 #[encH x, encH y] w fun e w' => e = .returned (.int .i64 (cfH x y)) ∧ w' = w := by
  obtain ⟨x, hx⟩ := x
  obtain ⟨y, hy⟩ := y
  have h1 := and_hd x (by omega)
  have h2 := and_hd y (by omega)
  unfold encH
  simp only at h1 h2 ⊢
  by_cases e1 : x < y
  · have HC := Lib.hid (show cfH ⟨x, hx⟩ ⟨y, hy⟩ = -1 by unfold cfH; rw [if_pos e1])
    have n1 : ((x : Int) == (y : Int)) = false := by rw [beq_eq_false_iff_ne]; omega
    have n2 : (x : Int) < (y : Int) := by omega
    go_enter Tryz.func57, Tryz.ntmps57
    go_wp2
    go_ret
    exact ⟨by rw [HC.out]; rfl, rfl⟩
  · by_cases e2 : y < x
    · have HC := Lib.hid (show cfH ⟨x, hx⟩ ⟨y, hy⟩ = 1 by unfold cfH; rw [if_neg e1, if_pos e2])
      have n1 : ((x : Int) == (y : Int)) = false := by rw [beq_eq_false_iff_ne]; omega
      have n2 : ¬ (x : Int) < (y : Int) := by omega
      go_enter Tryz.func57, Tryz.ntmps57
      go_wp2
      go_ret
      exact ⟨by rw [HC.out]; rfl, rfl⟩
    · obtain rfl : x = y := by omega
      have HC := Lib.hid (show cfH ⟨x, hx⟩ ⟨x, hy⟩ = 0 by unfold cfH; rw [if_neg (by simp), if_neg (by simp)])
      go_enter Tryz.func57, Tryz.ntmps57
      go_wp2
      go_ret
      exact ⟨by rw [HC.out]; rfl, rfl⟩

set_option maxHeartbeats 1000000 in
set_option maxRecDepth 100000 in
theorem cloneH_any (A : Option Addr) (c : Nat) (l : List Nat) (w : World) (h : Sl hndE w (.slice A l.length c) l) (hl : l.length ≤ 1000) (hv : l = [] → A = none ∧ c = 0) :
    Calls Tryz.prog 55 #[.slice A l.length c] w fun e w' => ∃ A' c', e = .returned (.slice A' l.length c') ∧ Ow hndE w' w.heap.size 35 (.slice A' l.length c') l ∧ (l = [] → A' = none ∧ c' = 0) ∧ Below w.heap.size w w' := by
  have he : ∀ (w : World) (a : Option Addr) (n c : Nat), (binOp .eql 43 (.slice a n c) (.slice none 0 0)).run Tryz.prog w = .ok (.bool a.isNone) w := fun w a n c => by cases a <;> rfl
  by_cases hn : l = []
  · subst hn
    obtain ⟨rfl, rfl⟩ := hv rfl
    clear h hv
    go_enter Tryz.func55, Tryz.ntmps55
    go_wp2
    go_ret
    exact ⟨none, 0, rfl, Ow.nil _ _ _ _, fun _ => ⟨rfl, rfl⟩, Below.refl _ _⟩
  · obtain ⟨A0, cap, hv0, h2, h3, h4⟩ := id h
    obtain ⟨b, off, rfl, -⟩ := h4 (List.length_pos_iff.2 hn)
    obtain ⟨rfl, rfl⟩ : A = some ⟨b, off, none⟩ ∧ c = cap := by injection hv0 with e1 e2 e3; exact ⟨e1, e3⟩
    have H := Lib.hid h; have HN := Lib.hid hn
    clear h4 h hn hv hv0
    go_enter Tryz.func55, Tryz.ntmps55
    go_wp2_with (at_builtin; refine Hid.out ?_)
    refine Lib.hid ?_
    have hm : Ow hndE (w.alloc (.cells #[] 35)) w.heap.size 35 (.slice (some ⟨w.heap.size, 0, none⟩) 0 0) [] := World.ownsRow_made w #[] 0 (Nat.le_refl _) (by simp [maxLen]) (by simp)
    refine wpOwS _ hndOK rfl (.tmp 5) (.tmp 6) rfl w.heap.size (by simp) _ [] rfl hm _ l rfl (H.out.alloc _) (by simp; omega) ?_
    intro A5 c5 w5 hown5 hg5 _
    rw [List.nil_append] at hown5
    have HO := Lib.hid hown5
    have HB := Lib.hid ((bal (Below.refl w.heap.size w)).grown hg5 (by simp) (fun k hk => by have := (hm.lt k hk).1; omega))
    have hnl : ([] : List Nat).length + l.length = l.length := by simp
    rw [hnl] at HO ⊢
    clear hown5 hg5 hm
    go_wp2_with fail
    go_ret
    exact ⟨_, _, rfl, HO.out, fun q => absurd q HN.out, HB.out⟩

set_option maxHeartbeats 2000000 in
set_option maxRecDepth 100000 in
theorem compactH_any (A : Option Addr) (c : Nat) (l : List Nat) (w : World) (h : Sl hndE w (.slice A l.length c) (l.map hd)) (hl : l.length ≤ 1000) (hn : l.Pairwise (· ≠ ·)) :
    Calls Tryz.prog 58 #[.slice A l.length c] w fun e w' => e = .returned (.slice A l.length c) ∧ Below w.heap.size w w' := by
  have H := Lib.hid h
  by_cases hs : l.length < 2
  · have hi : (l.length : Int) < 2 := by omega
    clear h
    go_enter Tryz.func58, Tryz.ntmps58
    go_wp2
    go_ret
    exact ⟨rfl, Below.refl _ _⟩
  · have hi : ¬ (l.length : Int) < 2 := by omega
    have hi2 : (l.length : Int) ≤ 1000 := by omega
    have HN := Lib.hid hn
    clear h hn
    go_enter Tryz.func58, Tryz.ntmps58
    go_wp2_with fail
    go_loopw [3] (fun i wr => ∃ j : Nat, 1 ≤ j ∧ j ≤ l.length ∧ i = .int .i64 j ∧ Hid (Below w.heap.size w wr)) (fun i _ => l.length - (intOf i).toNat)
    case atStart => exact ⟨1, by omega, by omega, rfl, Lib.hid (Below.refl _ _)⟩
    case round =>
      obtain ⟨j, hj1, hj, rfl, HB⟩ := hrel
      have hsz := HB.out.size
      by_cases hlt : j < l.length
      · obtain ⟨b1, o1, cap1, hv1, hbl1, hcc1⟩ := H.out.hnd (k := j) (by simpa using hlt)
        obtain ⟨b2, o2, cap2, hv2, hbl2, hcc2⟩ := H.out.hnd (k := j - 1) (by simp; omega)
        rw [List.length_map] at hv1 hv2
        obtain ⟨rfl, rfl⟩ : A = some ⟨b1, o1, none⟩ ∧ c = cap1 := by injection hv1 with e1 e2 e3; exact ⟨e1, e3⟩
        obtain ⟨rfl, rfl⟩ : b1 = b2 ∧ o1 = o2 := by injection hv2 with e1 e2 e3; injection e1 with e1; injection e1 with e1 e2; exact ⟨e1, e2⟩
        have q1 := hcc1 wr HB.out
        have q2 := hcc2 wr HB.out
        rw [List.getElem_map] at q1 q2
        have hne : l[j] ≠ l[j - 1] := fun e => (List.pairwise_iff_getElem.1 HN.out) (j - 1) j (by omega) hlt (by omega) e.symm
        have hji : (j : Int) < (l.length : Int) := by omega
        have hj1i : (1 : Int) ≤ j := by omega
        rw [show ((o1 + (j - 1) : Nat)) = o1 + (j - 1) from rfl] at q2
        clear hcc1 hv1 hcc2 hv2
        generalize l[j] = m at *
        generalize l[j - 1] = n at *
        have hne2 : (((hd m : Nat) : Int) == ((hd n : Nat) : Int)) = false := by rw [beq_eq_false_iff_ne]; unfold hd; omega
        go_wp2_with fail
        go_quiet (fail)
        go_wp2_with fail
        go_roundw
        case rel => exact ⟨j + 1, by omega, by omega, by go_num, Lib.hid (bdrN HB.out)⟩
        case measure => simp [intOf]; omega
      · obtain rfl : j = l.length := by omega
        go_wp2_with fail
        go_ret
        exact ⟨rfl, HB.out⟩

end Go.Proofs.YtclmjnobacepjaaGreat

/- package reach: parts, all live nodes being reachable, none retired. -/
namespace Go.Proofs.YtclmjnobacepjaaGreat
open Go.RowKit Go.Maps

theorem kH_inv {key : Value} {kl : Lit} (h : keyOf Tryz.prog 35 key = some kl) : ∃ x, key = .int .u64 x ∧ kl = .int .u64 x ∧ (Lit.int .u64 x).wf = true := Maps.keyOf_int_inv Tryz.underlying35 h
theorem inH_wf {x : Int} (h : (Lit.int .u64 x).wf = true) : inH x := by
  simp [Lit.wf, IntKind.min, IntKind.max, IntKind.bits, IntKind.signed] at h
  unfold inH
  omega

/-- how far the walk over the map has come: the nodes in L have been met -/
def MetL (P : Nat → Prop) (left : Lit → Bool) (L : List Nat) : Prop := L.Nodup ∧ (∀ x ∈ L, P x) ∧ ∀ k : Int, inH k → (left (.int .u64 k) = true ↔ ∃ i : Nat, P i ∧ i ∉ L ∧ k = (hd i : Nat))
theorem MetL.more {P : Nat → Prop} {left : Lit → Bool} {L : List Nat} (h : MetL P left L) {i : Nat} (hi : P i) (hn : i ∉ L) : MetL P (fun z => left z && !z.sameKey (.int .u64 (hd i : Nat))) (L ++ [i]) := by
  refine ⟨?_, fun x hx => ?_, fun k hk => ?_⟩
  · rw [List.nodup_append]
    refine ⟨h.1, by simp, fun a ha c hc e => ?_⟩
    obtain rfl : c = i := by simpa using hc
    exact hn (e ▸ ha)
  · rcases List.mem_append.1 hx with q | q
    · exact h.2.1 x q
    · obtain rfl := List.mem_singleton.1 q
      exact hi
  · show (left (.int .u64 k) && !(Lit.int .u64 k).sameKey (.int .u64 (hd i : Nat))) = true ↔ _
    have e : (Lit.int IntKind.u64 k).sameKey (.int .u64 (hd i : Nat)) = decide (k = (hd i : Nat)) := by simp [Lit.sameKey]
    rw [e, Bool.and_eq_true, h.2.2 k hk]
    constructor
    · rintro ⟨⟨j, a, b, rfl⟩, d⟩
      refine ⟨j, a, fun q => ?_, rfl⟩
      rcases List.mem_append.1 q with q | q
      · exact b q
      · obtain rfl := List.mem_singleton.1 q
        simp at d
    · rintro ⟨j, a, b, rfl⟩
      refine ⟨⟨j, a, fun q => b (List.mem_append.2 (.inl q)), rfl⟩, ?_⟩
      have : j ≠ i := fun q => b (List.mem_append.2 (.inr (List.mem_singleton.2 q)))
      have : ((hd j : Nat) : Int) ≠ (hd i : Nat) := by unfold hd; omega
      simp [this]

/-- behind a deletion -/
theorem CtM.del {w' : World} {b m n : Nat} {P : Nat → Prop} {f : Int → Option Value} (h2 : n ≤ m) (h3 : ∀ k : Int, (f k).isSome = true ↔ ∃ i : Nat, P i ∧ k = (hd i : Nat)) (h4 : ∀ k v, f k = some v → ∃ c : Nat, v = .int .i64 c ∧ 1 ≤ c ∧ c ≤ m) {i x : Nat} (h : MapIs w' b (del f (hd i : Nat)) (n - x)) : CtM w' b m (fun x => P x ∧ x ≠ i) := by
  refine ⟨_, _, h, by omega, fun k => ?_, fun k v q => ?_⟩
  · unfold Go.Proofs.YtclmjnobacepjaaGreat.del
    by_cases e : k = (hd i : Nat)
    · rw [if_pos e]
      refine ⟨fun q => by simp at q, ?_⟩
      rintro ⟨j, ⟨a, b⟩, d⟩
      exact absurd (show j = i by unfold hd at e d; omega) b
    · rw [if_neg e, h3 k]
      refine ⟨fun ⟨j, a, b⟩ => ⟨j, ⟨a, fun q => e (q ▸ b)⟩, b⟩, fun ⟨j, a, b⟩ => ⟨j, a.1, b⟩⟩
  · unfold Go.Proofs.YtclmjnobacepjaaGreat.del at q
    by_cases e : k = (hd i : Nat)
    · rw [if_pos e] at q; cases q
    · rw [if_neg e] at q
      exact h4 k v q
def EmpM (w : World) (b : Nat) : Prop := MapIs w b (fun _ => none) 0
theorem del_none (k : Int) : del (fun _ => none) k = fun _ => none := by
  funext x
  unfold del
  split <;> rfl
theorem frb {m : Nat} {w A B : World} {b : Nat} (h : Below m w A) (f : FrT (fun k => k = b) A B) (hb : m ≤ b) (hm : m ≤ A.heap.size) : Below m w B :=
  ⟨f.os.trans h.os, f.tape.trans h.tape, f.output.trans h.output, Nat.le_trans h.size f.size, fun k hk => (f.block k (Nat.lt_of_lt_of_le hk hm) (by omega)).trans (h.block k hk)⟩

theorem results_tmp4 {fn : Func} {t u v x : Tmp} (h : fn.results = #[.tmp t, .tmp u, .tmp v, .tmp x]) (tmps : Array Value) (P : Program) (w : World) :
    (results fn tmps).run P w = .ok (.tuple #[tmps.getD t undef, tmps.getD u undef, tmps.getD v undef, tmps.getD x undef]) w := by
  simp [results, h]

set_option maxHeartbeats 8000000 in
set_option maxRecDepth 100000 in
theorem parts_reach (A : AF) (G : Ar) (rs : List Rt) (Av : Option Addr) (cv : Nat) (w : World) (hA : ArM w A G) (hs : Sl rtE w (.slice Av rs.length cv) rs) (hr : ∀ r ∈ rs, ∃ T, RV G r T) (hl : rs.length ≤ 100) (hc : ∀ x, (∃ r ∈ rs, RtR G r x) ↔ x < G.length) :
    Calls Tryz.prog 26 #[.pointer (some ⟨A.ba, 0, none⟩), .slice Av rs.length cv, .slice none 0 0] w fun e w' => ∃ k b, e = .returned (.tuple #[.int .i64 k, .int .i64 0, .map (some b), .int .i64 0]) ∧ CtM w' b 1000 (fun x => x < 0) ∧ Below w.heap.size w w' := by
  have C1 := Lib.hid (counts_any A G rs Av cv w hA hs hr hl)
  have C2 := Lib.hid (fun W (p : Below w.heap.size w W) => ahandles_any A G W (hA.ext p))
  have HC := Lib.hid hc
  have hle := hA.le
  have mm1 := mkMap
  have mm2 := mkMapC
  clear hA hs hr hc
  go_enter Tryz.func26, Tryz.ntmps26
  go_wp2_with fail
  refine C1.out.mono ?_
  rintro e w1 ⟨b0, rfl, hb0, hct, hb1⟩
  have HCT := Lib.hid (hct.congr HC.out)
  have HB1 := Lib.hid hb1
  have hlt0 := hct.lt
  have hsz1 := hb1.size
  clear hct hb1 C1 HC
  generalize hN : List.length G = N at *
  clear hN
  have B0 := Lib.hid (bal (bal HB1.out (o := .map #[] 0)) (o := .map #[] 0))
  have K0 := Lib.hid (HCT.out.ext (bal (bal (Below.refl w1.heap.size w1) (o := .map #[] 0)) (o := .map #[] 0)) hlt0)
  have R0 := Lib.hid (show EmpM ((w1.alloc (.map #[] 0)).alloc (.map #[] 0)) w1.heap.size from (MapIs.made w1).alloc _)
  have L0 := Lib.hid (show CtM ((w1.alloc (.map #[] 0)).alloc (.map #[] 0)) (w1.heap.size + 1) 0 (fun _ => False) from by
    have := CtM.made (w1.alloc (.map #[] 0))
    rw [World.size_alloc] at this
    exact this)
  go_wp2_with fail
  refine wp_loop_rounds 1 ?_
  rw [rounds_succ]
  go_wp2_with fail
  refine (C2.out _ B0.out).mono ?_
  rintro e w4 ⟨Ah, ch, rfl, ho, hb4⟩
  have HO := Lib.hid ho
  have B4 := Lib.hid (bcall B0.out hb4)
  have K4 := Lib.hid (K0.out.ext hb4 (by rw [World.size_alloc, World.size_alloc]; omega))
  have R4 := Lib.hid (show EmpM w4 w1.heap.size from MapIs.ext R0.out hb4 (by rw [World.size_alloc, World.size_alloc]; omega))
  have L4 := Lib.hid (L0.out.ext hb4 (by rw [World.size_alloc, World.size_alloc]; omega))
  have hz4 := hb4.size
  rw [World.size_alloc, World.size_alloc] at hz4 ho
  have HG := Lib.hid (fun g hg => (ho.lt g hg).1)
  have hNi : (N : Int) ≤ 1000 := by omega
  clear ho hb4 B0 K0 R0 L0 HCT HB1 C2
  go_wp2_with fail
  go_loopw [50] (fun i W => ∃ m : Nat, m ≤ N ∧ i = .int .i64 m ∧ Hid (FrT (fun k => k = w1.heap.size + 1) w4 W) ∧ Hid (CtM W (w1.heap.size + 1) m (fun x => x < m))) (fun i _ => N - (intOf i).toNat)
  case atStart => exact ⟨0, by omega, rfl, Lib.hid (FrT.refl _ _), Lib.hid (L4.out.congr fun i => by simp)⟩
  clear L4
  case round =>
    obtain ⟨m, hm, rfl, HF, HM⟩ := hrel
    have hsw := HF.out.size
    by_cases hlt : m < N
    · have hO : Ow hndE wr 0 35 (.slice Ah N ch) ((List.range N).map hd) := (HO.out.kept fun g hg => HF.out.block g (HO.out.lt g hg).2 (fun e => by have := HG.out g hg; omega)).base (Nat.zero_le _)
      obtain ⟨b3, o3, cap3, hv3, hbl3, hcc3⟩ := hO.sl.hnd (k := m) (by simpa using hlt)
      rw [List.length_map, List.length_range] at hv3
      obtain ⟨rfl, rfl⟩ : Ah = some ⟨b3, o3, none⟩ ∧ ch = cap3 := by injection hv3 with e1 e2 e3; exact ⟨e1, e3⟩
      have q0 := hcc3 wr (Below.refl _ _)
      rw [List.getElem_map, List.getElem_range] at q0
      have hmi : (m : Int) < (N : Int) := by omega
      clear hcc3 hv3 hO
      obtain ⟨w5, hst, hc5, hg5, hs5⟩ := HM.out.store (by omega) (i := m) (by omega) (c := 1) (by omega) (by omega)
      have HC5 := Lib.hid hc5
      have HF5 := Lib.hid (HF.out.grown hg5 (fun k hk => .inl (Option.some.inj hk).symm))
      clear hc5 hg5 HM HF hs5
      rw [show ((1 : Nat) : Int) = 1 from rfl] at hst
      go_wp2_with fail
      go_roundw
      case rel => exact ⟨m + 1, by omega, by go_num, HF5, Lib.hid (HC5.out.congr fun i => by omega)⟩
      case measure => simp [intOf]; omega
    · obtain rfl : m = N := by omega
      have B5 := Lib.hid (frb B4.out HF.out (by omega) B4.out.size)
      have K5 := Lib.hid (K4.out.keep (HF.out.block b0 K4.out.lt (by omega)))
      have R5 := Lib.hid (show EmpM wr w1.heap.size from MapIs.keep R4.out (HF.out.block _ (MapIs.lt R4.out) (by omega)))
      have L5 := Lib.hid (HM.out.le (m' := 1000) hle)
      clear HF HM B4 K4 R4 HO HG hlt hm
      obtain ⟨f, cnt, ⟨n1, D, hown, hb1, hb2, hb3, hb4⟩, hcn, hf1, hf2⟩ := K5.out
      have HOWN := Lib.hid hown; have HB2 := Lib.hid hb2; have HB3 := Lib.hid hb3; have HF1 := Lib.hid hf1; have HB4 := Lib.hid hb4; have HB1 := Lib.hid hb1
      clear hown hb1 hb2 hb3 hb4 hcn hf1 hf2 K5
      have hr5 : w1.heap.size + 1 < wr.heap.size := by omega
      generalize wr = wm at *
      go_wp2_with (first
        | (at_range; refine wpList_range_own _ rfl _ 87 rfl 35 3 lawH Tryz.underlying87 _ b0 n1 _ rfl HOWN.out ?_; intro w0 hrg0 hg0 hs0)
        | fail)
      have BW0 := Lib.hid (show Below wm.heap.size wm w0 from ⟨hg0.os, hg0.tape, hg0.output, hg0.size, fun k hk => hg0.block k hk (by simp)⟩)
      have RG0 := Lib.hid hrg0
      clear hrg0 hg0 HOWN hs0
      go_loopw [16] (fun _ wr => ∃ (left : Lit → Bool) (cnt : Nat) (L : List Nat), Hid (wr.ranges Tryz.prog 35 hR b0 wm.heap.size n1 D left cnt) ∧ Hid (MetL (fun x => x < m) left L) ∧ Hid (CtM wr (w1.heap.size + 1) 1000 (fun x => x < m ∧ x ∉ L)) ∧ Hid (EmpM wr w1.heap.size) ∧ Hid (Below w.heap.size w wr)) (fun _ wr => wr.rangeLeft b0 wm.heap.size)
      case atStart =>
        refine ⟨_, _, [], RG0, Lib.hid ⟨List.nodup_nil, by simp, fun k hk => ?_⟩, Lib.hid ((L5.out.ext BW0.out hr5).congr fun i => by simp), Lib.hid (MapIs.ext R5.out BW0.out (by omega)), Lib.hid (bcall B5.out BW0.out)⟩
        rw [HB2.out k hk, HF1.out k]
        simp
      clear RG0 BW0 L5 R5 B5
      case round =>
        obtain ⟨left, cnt, L, hrg, hM, hL, hE, hB⟩ := hrel
        go_wp2_with (at_next; refine Hid.out ?_)
        refine Lib.hid ?_
        refine wpList_next_ranges _ rfl _ rfl 35 lawH hR (Value.int .u64) (fun v : Value => v) (fun key kl hk => by obtain ⟨x, e, _⟩ := kH_inv hk; exact ⟨x, e⟩) (fun v y hy => ⟨v, rfl⟩) b0 wm.heap.size n1 D left cnt rfl hrg.out ?_ ?_
        · intro _ hl0
          have LE := Lib.hid (hL.out.congr (Q := fun x => x < 0) (fun x => ⟨fun q => (by
            have := (hM.out.2.2 (hd x : Nat) (inH_hd (by have := q.1; omega))).2 ⟨x, q.1, q.2, rfl⟩
            rw [hl0] at this
            cases this), fun q => absurd q (by omega)⟩))
          have KM := Lib.hid (show MapIs wr b0 f (size D) from ⟨n1, D, hrg.out.owns, HB1.out, HB2.out, HB3.out, rfl⟩)
          obtain ⟨n2, D2, o2, -, p2, -, s2⟩ := hE.out
          have O2 := Lib.hid o2; have P2 := Lib.hid p2; have EM := Lib.hid hE.out
          have BW := hB
          have hsB := Lib.hid hL.out.lt
          clear hl0 hM hL hE hB hrg o2 p2 s2
          generalize wr = wx at *
          go_wp2_with (first
            | (at_range; refine wpList_range_own _ rfl _ 107 rfl 35 4 lawH Tryz.underlying107 _ w1.heap.size n2 _ rfl O2.out ?_; intro w0 hrg0 hg0 hs0)
            | fail)
          have BX0 := Lib.hid (show Below wx.heap.size wx w0 from ⟨hg0.os, hg0.tape, hg0.output, hg0.size, fun k hk => hg0.block k hk (by simp)⟩)
          have RX0 := Lib.hid hrg0
          have LX := Lib.hid (LE.out.ext BX0.out hsB.out)
          have KX := Lib.hid (KM.out.ext BX0.out KM.out.lt)
          have BX := Lib.hid (bcall BW.out BX0.out)
          have EX := Lib.hid (MapIs.ext EM.out BX0.out (MapIs.lt EM.out))
          have hbx := hsB.out
          clear hrg0 hg0 O2 hs0 LE KM BW BX0
          refine wp_loop_rounds 1 ?_
          rw [rounds_succ]
          go_wp2_with (at_next; refine Hid.out ?_)
          refine Lib.hid ?_
          refine wpList_next_ranges _ rfl _ rfl 35 lawH hR (Value.int .u64) (fun v : Value => v) (fun key kl hk => by obtain ⟨x, e, _⟩ := kH_inv hk; exact ⟨x, e⟩) (fun v y hy => ⟨v, rfl⟩) w1.heap.size wx.heap.size n2 D2 _ _ rfl RX0.out ?_ ?_
          · intro _ _
            have hlen1 := fun ty => KX.out.len Tryz.underlying87 ty
            have hlen2 := fun ty => MapIs.len EX.out Tryz.underlying107 ty
            go_wp2_with fail
            (try simp only [Exit.inBlock, Exit.then])
            refine bodyPost_ret (results_tmp4 rfl _ _ _) rfl ?_
            exact ⟨_, _, rfl, LX.out, BX.out⟩
          · intro x v kl y w2 cnt1 hkey hlx hy hat hrg1 hlt1 hg1 hs1 hen
            obtain ⟨x', ex, rfl, hwf⟩ := kH_inv hkey
            rw [P2.out _ (inH_wf hwf)] at hlx
            cases hlx
        · intro x v kl y w2 cnt1 hkey hlx hy hat hrg1 hlt1 hg1 hs1 hen
          obtain ⟨x', ex, rfl, hwf⟩ := kH_inv hkey
          cases ex
          obtain rfl := hR_inv hy
          have hin := inH_wf hwf
          obtain ⟨i, hi, hni, rfl⟩ := (hM.out.2.2 x hin).1 hlx
          have hne : wm.heap.size ≠ w1.heap.size + 1 := by omega
          obtain ⟨f', n', k1, k2, k3, k4⟩ := hL.out.keep (hg1.block _ hL.out.lt (fun e => hne (Option.some.inj e).symm))
          have K1 := Lib.hid k1; have K2 := Lib.hid k2; have K3 := Lib.hid k3; have K4 := Lib.hid k4
          have E1 := Lib.hid (show EmpM w2 w1.heap.size from MapIs.keep hE.out (hg1.block _ (MapIs.lt hE.out) (fun e => by have := Option.some.inj e; omega)))
          have BW1 := Lib.hid (hB.out.grown hg1 hB.out.size (fun q hq => by obtain rfl := Option.some.inj hq; omega))
          have RG1 := Lib.hid hrg1
          have HCT := Lib.hid hrg.out.left_eq
          have HM := Lib.hid (hM.out.more hi hni)
          have HIN := Lib.hid hin
          clear k1 k2 k3 k4 hrg1 hg1 hs1 hkey hlx hy hat hwf hin hni hM hL hE hB hrg
          go_wp2_with (at_delete; refine Hid.out ?_)
          refine Lib.hid ?_
          refine wpList_mdelete _ rfl _ _ 87 rfl 3 Tryz.underlying87 (w1.heap.size + 1) n' f' rfl K1.out (hd i : Nat) rfl HIN.out ?_
          intro w5 hm5 hg5 hs5
          have hb2 := MapIs.lt E1.out
          have E5 := Lib.hid (show EmpM w5 w1.heap.size from MapIs.keep E1.out (hg5.block _ hb2 (fun e => by have := Option.some.inj e; omega)))
          have RG5 := Lib.hid (RG1.out.kept hg5 (fun e => by have := Option.some.inj e; omega) (fun e => by have := Option.some.inj e; omega))
          have L5 := Lib.hid (CtM.del K2.out K3.out K4.out hm5)
          have BW5 := Lib.hid (BW1.out.grown hg5 BW1.out.size (fun q hq => by obtain rfl := Option.some.inj hq; omega))
          clear hm5 hg5 hs5 K1 K2 K3 K4 E1 RG1 BW1 hb2
          go_frame
          go_wp2_with (at_delete; refine Hid.out ?_)
          refine Lib.hid ?_
          refine wpList_mdelete _ rfl _ _ 107 rfl 4 Tryz.underlying107 w1.heap.size 0 (fun _ => none) rfl E5.out (hd i : Nat) rfl HIN.out ?_
          intro w6 hm6 hg6 hs6
          rw [del_none] at hm6
          have E6 := Lib.hid (show EmpM w6 w1.heap.size from hm6)
          have RG6 := Lib.hid (RG5.out.kept hg6 (fun e => by have := Option.some.inj e; omega) (fun e => by have := Option.some.inj e; omega))
          have L6 := Lib.hid (L5.out.keep (hg6.block _ L5.out.lt (fun e => by have := Option.some.inj e; omega)))
          have BW6 := Lib.hid (BW5.out.grown hg6 BW5.out.size (fun q hq => by obtain rfl := Option.some.inj hq; omega))
          clear hm6 hg6 hs6 E5 RG5 L5 BW5
          go_frame
          go_wp2_with fail
          go_roundw
          case rel => exact ⟨_, cnt1, L ++ [i], RG6, HM, Lib.hid (L6.out.congr fun x => by simp [and_assoc]), E6, BW6⟩
          case measure => rw [RG6.out.left_eq, HCT.out]; omega

end Go.Proofs.YtclmjnobacepjaaGreat
