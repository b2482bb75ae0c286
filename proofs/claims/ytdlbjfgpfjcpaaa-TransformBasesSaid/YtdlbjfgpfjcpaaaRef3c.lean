/- quartoref03.Form returns the same list as delta.form, in memory of its own. Condition: valid pieces, at most 100000, none longer than 2^20. -/
import Derived.Test.YtdlbjfgpfjcpaaaRef3b
import Derived.Deep.CutBlock
namespace Go.Proofs.Ytdlbjfgpfjcpaaa
open Go.RowKit

theorem formSt_snoc (l : List Pc) (k : Nat) (h : k < l.length) : formSt (l.take (k + 1)) = formStep (formSt (l.take k)) l[k] := by
  unfold formSt
  rw [List.take_succ_eq_append_getElem h, List.foldl_append]
  rfl

/-- at the head of Form's outer loop -/
def OutI (l : List Pc) (k : Nat) (out : List Pc) : Prop :=
  (formSt (l.take k) = ⟨out, [], 0⟩ ∧ (k = 0 ∨ k = l.length ∨ ∃ h : k < l.length, l[k].k ≠ 1)) ∨ (k = l.length ∧ out = formS l)
/-- at the head of the loop over a gap that began at k -/
def In1 (l : List Pc) (k : Nat) (out : List Pc) (j : Nat) (text : List UInt8) (n : Int) : Prop :=
  formSt (l.take j) = ⟨out, text, n⟩ ∧ k ≤ j ∧ (k < j → text ≠ [] ∨ 0 < n) ∧ (k = 0 ∨ ∃ h : k < l.length, l[k].k ≠ 1)
/-- at the head of the loop over the pieces behind it that retain -/
def In2 (l : List Pc) (k j0 : Nat) (out : List Pc) (text : List UInt8) (n : Int) (j : Nat) (m : Int) : Prop :=
  In1 l k out j0 text n ∧ j0 ≤ j ∧ (j0 = l.length ∨ ∃ h : j0 < l.length, l[j0].k = 1) ∧ (j = j0 → m = 0) ∧ (j0 < j → 0 < m ∧ formSt (l.take j) = ⟨flushed out text n ++ [⟨1, m, []⟩], [], 0⟩)

theorem OutI.start (l : List Pc) : OutI l 0 [] := .inl ⟨rfl, .inl rfl⟩
theorem OutI.in1 {l : List Pc} {k : Nat} {out : List Pc} (h : OutI l k out) (hk : k < l.length) : In1 l k out k [] 0 := by
  rcases h with ⟨h1, h2⟩ | ⟨h1, _⟩
  · refine ⟨h1, Nat.le_refl _, fun h => by omega, ?_⟩
    rcases h2 with h2 | h2 | h2
    · exact .inl h2
    · omega
    · exact .inr h2
  · omega
theorem OutI.done {l : List Pc} {out : List Pc} (h : OutI l l.length out) : out = formS l := by
  rcases h with ⟨h1, _⟩ | ⟨_, h1⟩
  · rw [List.take_length] at h1
    unfold formS
    rw [h1]
    simp [flushed]
  · exact h1
theorem In1.step {l : List Pc} {k j : Nat} {out : List Pc} {text : List UInt8} {n : Int} (h : In1 l k out j text n) (hn : 0 ≤ n) (hj : j < l.length) (hv : l[j].valid = true) (h1 : l[j].k ≠ 1) : In1 l k out (j + 1) (text ++ l[j].t) (n + l[j].n) := by
  obtain ⟨a, b, c, d⟩ := h
  refine ⟨?_, by omega, fun _ => ?_, d⟩
  · rw [formSt_snoc l j hj, a]
    rcases Pc.valid_cases hv with ⟨x, _, _⟩ | ⟨x, y, z⟩ | ⟨x, y, z⟩
    · exact absurd x h1
    · simp [formStep, x, z]
    · simp [formStep, x, y]
  · rcases Pc.valid_cases hv with ⟨x, _, _⟩ | ⟨x, y, z⟩ | ⟨x, y, z⟩
    · exact absurd x h1
    · exact .inr (by omega)
    · exact .inl (by simp [z])
theorem In1.out {l : List Pc} {k j : Nat} {out : List Pc} {text : List UInt8} {n : Int} (h : In1 l k out j text n) (hj : j = l.length ∨ ∃ h : j < l.length, l[j].k = 1) : In2 l k j out text n j 0 :=
  ⟨h, Nat.le_refl _, hj, fun _ => rfl, fun h => by omega⟩

theorem addRetain_flushed {out : List Pc} {text : List UInt8} {n : Int} {p : Pc} (h : (text ≠ [] ∨ 0 < n) ∨ out = [] ∧ text = [] ∧ n = 0) : addRetain (flushed out text n) p = flushed out text n ++ [p] := by
  unfold addRetain flushed
  rcases h with h | ⟨rfl, rfl, rfl⟩
  · by_cases hn : 0 < n
    · simp [hn]
    · have ht : text ≠ [] := by rcases h with h | h; exact h; exact absurd h hn
      simp [hn, ht]
  · simp

theorem In2.step {l : List Pc} {k j0 j : Nat} {out : List Pc} {text : List UInt8} {n m : Int} (h : In2 l k j0 out text n j m) (hj : j < l.length) (hv : l[j].valid = true) (h1 : l[j].k = 1) : In2 l k j0 out text n (j + 1) (m + l[j].n) := by
  obtain ⟨a, b, c, d, e⟩ := h
  have hp : 1 ≤ l[j].n ∧ l[j].t = [] := by
    rcases Pc.valid_cases hv with ⟨_, y, z⟩ | ⟨x, _, _⟩ | ⟨x, _, _⟩
    · exact ⟨y, z⟩
    · omega
    · omega
  have hpe : l[j] = ⟨1, l[j].n, []⟩ := by
    rw [← hp.2, ← h1]
  refine ⟨a, by omega, c, fun h => by omega, fun _ => ?_⟩
  rw [formSt_snoc l j hj]
  by_cases hjj : j = j0
  · subst hjj
    rw [d rfl]
    refine ⟨by omega, ?_⟩
    obtain ⟨a1, a2, a3, a4⟩ := a
    rw [a1]
    have hl : (text ≠ [] ∨ 0 < n) ∨ out = [] ∧ text = [] ∧ n = 0 := by
      by_cases hkj : k < j
      · exact .inl (a3 hkj)
      · obtain rfl : k = j := by omega
        rcases a4 with a4 | ⟨_, a4⟩
        · subst a4
          have e0 : formSt (l.take 0) = ⟨[], [], 0⟩ := rfl
          rw [e0] at a1
          injection a1 with b1 b2 b3
          exact .inr ⟨b1.symm, b2.symm, b3.symm⟩
        · exact absurd h1 a4
    simp only [formStep]
    rw [if_neg (by omega), if_neg (by omega), addRetain_flushed hl, Int.zero_add, ← hpe]
  · obtain ⟨e1, e2⟩ := e (by omega)
    refine ⟨by omega, ?_⟩
    rw [e2]
    simp only [formStep]
    rw [if_neg (by omega), if_neg (by omega)]
    simp [flushed, addRetain]

theorem In2.last {l : List Pc} {k j0 j : Nat} {out : List Pc} {text : List UInt8} {n m : Int} (h : In2 l k j0 out text n j m) (hk : k < l.length) (hj : j = l.length ∨ ∃ h : j < l.length, l[j].k ≠ 1) :
    k < j ∧ 0 ≤ m ∧ (0 < m → OutI l j (flushed out text n ++ [⟨1, m, []⟩])) ∧ (¬ 0 < m → OutI l j (flushed out text n)) := by
  obtain ⟨a, b, c, d, e⟩ := h
  by_cases hjj : j = j0
  · have hm := d hjj
    subst hm hjj
    have hl : j = l.length := by
      rcases hj with hj | ⟨h1, hj⟩
      · exact hj
      · rcases c with c | ⟨_, c⟩
        · exact c
        · exact absurd c hj
    refine ⟨by omega, Int.le_refl _, fun h => by omega, fun _ => .inr ⟨hl, ?_⟩⟩
    have a1 := a.1
    rw [hl, List.take_length] at a1
    unfold formS
    rw [a1]
  · obtain ⟨e1, e2⟩ := e (by omega)
    refine ⟨by have := a.2.1; omega, by omega, fun _ => .inl ⟨e2, ?_⟩, fun h => absurd e1 h⟩
    rcases hj with hj | hj
    · exact .inr (.inl hj)
    · exact .inr (.inr hj)

/-- the cells of a piece of a slice that was there at w, in every later world -/
theorem Sl.pcB {w : World} {v : Value} {l : List Pc} (h : Sl pcE w v l) {k : Nat} (hk : k < l.length) :
    ∃ b off cap, v = .slice (some ⟨b, off, none⟩) l.length cap ∧ b < w.heap.size ∧ ∀ w', Below w.heap.size w w' → w'.cell? ⟨b, off + k * 3, none⟩ = some (.int .u8 l[k].k) ∧ w'.cell? ⟨b, off + k * 3 + 1, none⟩ = some (.int .i64 l[k].n) ∧ w'.cell? ⟨b, off + k * 3 + 2, none⟩ = some (.string ⟨l[k].t.toArray⟩) := by
  obtain ⟨b, off, cap, hv, hb, c0, c1, c2⟩ := h.pc hk
  exact ⟨b, off, cap, hv, hb, fun w' hb' => ⟨(hb'.cell (p := ⟨b, _, none⟩) hb).trans c0, (hb'.cell (p := ⟨b, _, none⟩) hb).trans c1, (hb'.cell (p := ⟨b, _, none⟩) hb).trans c2⟩⟩

set_option maxHeartbeats 4000000 in
set_option maxRecDepth 100000 in
theorem refForm_any (v : Value) (l : List Pc) (w : World) (h : Sl pcE w v l) (hd : FormPre l) (hval : ∀ p ∈ l, p.valid = true) :
    Calls Try.prog 70 #[v] w fun e w' => ∃ v', e = .returned v' ∧ w'.ownsRow w.heap.size 31 3 v' (formS l).length (pcE.flat (formS l)) ∧ Below w.heap.size w w' := by
  obtain ⟨A, cap, hv, h2, h3, -⟩ := id h
  have Hh := Lib.hid h; clear h
  subst hv
  unfold maxLen at h3
  obtain ⟨i0, hi, hz0, hz1, hz2⟩ := info_parts infoPiece
  obtain ⟨j0, hj, jz0, jz1, jz2⟩ := info_parts infoByte
  obtain ⟨hd1, hd2⟩ := hd
  have Hd2 := Lib.hid hd2; clear hd2
  have Hval := Lib.hid hval; clear hval
  go_enter Try.func70, Try.ntmps70
  go_wp2_with fail
  go_loopw [3, 4] (fun vo i wr => ∃ (k : Nat) (out : List Pc) (A3 : Option Addr) (c3 : Nat), k ≤ l.length ∧ i = .int .i64 k ∧ vo = .slice A3 out.length c3 ∧ Hid (OutI l k out) ∧ Hid (wr.ownsRow w.heap.size 31 3 (.slice A3 out.length c3) out.length (pcE.flat out)) ∧ Hid (Below w.heap.size w wr)) (fun _ i _ => l.length - (intOf i).toNat)
  case atStart => exact ⟨0, [], none, 0, by omega, rfl, rfl, OutI.start l, World.ownsRow_nil _ _ _ _, Below.refl _ _⟩
  case round =>
    obtain ⟨k, out, A3, c3, hk, rfl, rfl, hO, hown, hbel⟩ := hrel
    obtain ⟨wo, rfl⟩ : ∃ wo : World, wo = wr := ⟨_, rfl⟩
    by_cases hlt : k < l.length
    · have Hin := Lib.hid (hO.out.in1 hlt)
      go_upto_block 2 with (fail)
      go_cut [4, 5, 6] (fun i vt n wc => ∃ (j : Nat) (text : List UInt8) (nn : Int) (A5 : Option Addr) (c5 : Nat), j ≤ l.length ∧ i = .int .i64 j ∧ vt = .slice A5 text.length c5 ∧ n = .int .i64 nn ∧ 0 ≤ nn ∧
        Hid (In1 l k out j text nn) ∧ Hid (j = l.length ∨ ∃ h : j < l.length, l[j].k = 1) ∧
        Hid (wc.ownsRow w.heap.size 5 1 (.slice A5 text.length c5) text.length (bc text)) ∧ Hid (wc.ownsRow w.heap.size 31 3 (.slice A3 out.length c3) out.length (pcE.flat out)) ∧ Hid (Below w.heap.size w wc))
      case first =>
        go_wp2_with fail
        go_loopw [4, 5, 6] (fun i vt n wc => ∃ (j : Nat) (text : List UInt8) (nn : Int) (A5 : Option Addr) (c5 : Nat), j ≤ l.length ∧ i = .int .i64 j ∧ vt = .slice A5 text.length c5 ∧ n = .int .i64 nn ∧ 0 ≤ nn ∧
          Hid (In1 l k out j text nn) ∧
          Hid (wc.ownsRow w.heap.size 5 1 (.slice A5 text.length c5) text.length (bc text)) ∧ Hid (wc.ownsRow w.heap.size 31 3 (.slice A3 out.length c3) out.length (pcE.flat out)) ∧ Hid (Below w.heap.size w wc)) (fun i _ _ _ => l.length - (intOf i).toNat)
        case atStart => exact ⟨k, [], 0, none, 0, hk, rfl, rfl, rfl, Int.le_refl _, Hin, Lib.hid (World.ownsRow_nil _ _ _ _), hown, hbel⟩
        case round =>
          obtain ⟨j, text, nn, A5, c5, hjl, rfl, rfl, rfl, hn0, hI, hot, hoo, hb1⟩ := hrel
          have bd := formSt_bd (d := 1048576) (l.take j) (fun p hp => Hd2.out p (List.mem_of_mem_take hp))
          rw [hI.out.1, List.length_take, Nat.min_eq_left hjl] at bd
          obtain ⟨bd1, bd2, bd3, bd4, -⟩ := bd
          dsimp only at bd1 bd2 bd3 bd4
          by_cases hj1 : j < l.length
          · obtain ⟨b, off, cap', hv, hb, hcells⟩ := Hh.out.pcB hj1
            obtain ⟨rfl, rfl⟩ : A = some ⟨b, off, none⟩ ∧ cap = cap' := by injection hv with e1 e2 e3; exact ⟨e1, e3⟩
            obtain ⟨q1, q2, q3⟩ := Hd2.out l[j] (List.getElem_mem hj1)
            have Hstep := Lib.hid (fun h => hI.out.step hn0 hj1 (Hval.out _ (List.getElem_mem hj1)) h)
            have Hone := Lib.hid (fun h : l[j].k = 1 => (Or.inr ⟨hj1, h⟩ : j = l.length ∨ ∃ h : j < l.length, l[j].k = 1))
            have Hcells := Lib.hid hcells
            clear hv hcells
            generalize l[j] = p at *
            obtain ⟨c0, c1, c2⟩ := Hcells.out _ hb1.out
            by_cases hp1 : (p.k == 1) = true
            · have hp1' : (p.k != 1) = false := by simpa using hp1
              have Hp1 := Lib.hid (show p.k = 1 by simpa using hp1)
              clear hp1
              go_wp2
              go_meet
              case rel => exact ⟨j, text, nn, A5, c5, hjl, rfl, rfl, rfl, hn0, hI, Lib.hid (Hone.out Hp1.out), hot, hoo, hb1⟩
            · have hp1' : (p.k != 1) = true := by simpa using hp1
              have Hp1 := Lib.hid (show p.k ≠ 1 by simpa using hp1)
              clear hp1
              go_wp2_with (
                at_builtin
                refine wpListB_append _ rfl (.tmp 25) (.tmp 30) 111 9 rfl w.heap.size hb1.out.size 5 j0 _ 1 1 Try.underlying111 hj jz0 jz1 jz2 rfl (by decide) _ _ _ rfl hot.out _ _ _ rfl (Src.ofString _ Try.underlying9 ⟨p.t.toArray⟩) ?_ ?_ ?_
                · simp [ByteArray.size, maxLen]; omega
                · simp [ByteArray.size]; omega
                intro A6 c6 w6 hown6 hg6 hat6 _
                have hb6 : Below w.heap.size w w6 := hb1.out.grown hg6 hb1.out.size (fun g hg => (hot.out.lt g hg).1)
                have Hoo6 := Lib.hid (own_other hoo.out hot.out (by decide) hg6)
                have Hown6 := Lib.hid hown6
                have Hb6 := Lib.hid hb6
                obtain ⟨c06, c16, c26⟩ := Hcells.out _ hb6
                clear hown6 hg6 hat6 hb6)
              go_roundw
              case rel =>
                refine ⟨j + 1, text ++ p.t, nn + p.n, A6, c6, by omega, by go_num, by simp, rfl, by omega, Lib.hid (Hstep.out Hp1.out), Lib.hid ?_, Hoo6, Hb6⟩
                have e1 : bc (text ++ p.t) = bc text ++ byteCells ⟨p.t.toArray⟩ := Lib.byteCells_append text p.t
                rw [e1]
                simpa [ByteArray.size] using Hown6.out
              case measure => simp [intOf]; omega
          · go_wp2
            go_meet
            case rel => exact ⟨j, text, nn, A5, c5, hjl, rfl, rfl, rfl, hn0, hI, Lib.hid (.inl (by omega)), hot, hoo, hb1⟩
      case rest =>
        obtain ⟨j, text, nn, A5, c5, hjl, rfl, rfl, rfl, hn0, hI, hex, hot, hoo, hb1⟩ := hcut
        have bd := formSt_bd (d := 1048576) (l.take j) (fun p hp => Hd2.out p (List.mem_of_mem_take hp))
        rw [hI.out.1, List.length_take, Nat.min_eq_left hjl] at bd
        obtain ⟨bd1, bd2, bd3, bd4, -⟩ := bd
        dsimp only at bd1 bd2 bd3 bd4
        have hN : nn ≤ 104857600000 := by omega
        clear bd2 bd4
        go_upto_if 41 with (fail)
        go_cut [3] (fun s3 wc => ∃ (out1 : List Pc) (A7 : Option Addr) (c7 : Nat), Hid (out1 = if text = [] then out else out ++ [⟨2, 0, text⟩]) ∧ out1.length ≤ out.length + 1 ∧ s3 = .slice A7 out1.length c7 ∧ Hid (wc.ownsRow w.heap.size 31 3 (.slice A7 out1.length c7) out1.length (pcE.flat out1)) ∧ Hid (Below w.heap.size w wc))
        case first =>
          by_cases ht : text = []
          · subst ht
            go_wp2
            go_meet
            case rel => exact ⟨out, A3, c3, Lib.hid rfl, by omega, rfl, hoo, hb1⟩
          · have hpos : 0 < text.length := List.length_pos_iff.2 ht
            have Ht := Lib.hid ht; clear ht
            have hconv := own_str hot.out
            go_wp2_with (
              at_builtin
              refine wpListB_append _ rfl (.tmp 42) (.tmp 46) 22 22 rfl w.heap.size (by have := hb1.out.size; simp; omega) 31 i0 _ 3 32 Try.underlying22 hi hz0 hz1 hz2 rfl (by decide) _ _ _ rfl (hoo.out.alloc _) _ 1 _ rfl (src_one pcE Try.underlying22 (off := 0) ⟨2, 0, text⟩ _ ?_) ?_ ?_ ?_
              · exact new_cells _ _ _
              · unfold maxLen; omega
              · omega
              intro A7 c7 w7 hown7 hg7 hat7 _)
            go_meet
            case rel =>
              refine ⟨out ++ [⟨2, 0, text⟩], A7, c7, Lib.hid (by rw [if_neg Ht.out]), by simp, by simp, Lib.hid ?_, Lib.hid ((hb1.out.alloc hb1.out.size _).grown hg7 (by have := hb1.out.size; simp; omega) (fun g hg => (hoo.out.lt g hg).1))⟩
              rw [List.length_append, pcE.flat_append]
              exact hown7
        case rest =>
          obtain ⟨out1, A7, c7, ho1, hl1, rfl, hoo1, hb2⟩ := hcut
          go_upto_if 49 with (fail)
          go_cut [3] (fun s3 wc => ∃ (out2 : List Pc) (A8 : Option Addr) (c8 : Nat), Hid (out2 = flushed out text nn) ∧ out2.length ≤ out.length + 2 ∧ s3 = .slice A8 out2.length c8 ∧ Hid (wc.ownsRow w.heap.size 31 3 (.slice A8 out2.length c8) out2.length (pcE.flat out2)) ∧ Hid (Below w.heap.size w wc))
          case first =>
            by_cases hn : 0 < nn
            · go_wp2_with (
                at_builtin
                refine wpListB_append _ rfl (.tmp 50) (.tmp 53) 22 22 rfl w.heap.size (by have := hb2.out.size; simp; omega) 31 i0 _ 3 32 Try.underlying22 hi hz0 hz1 hz2 rfl (by decide) _ _ _ rfl (hoo1.out.alloc _) _ 1 _ rfl (src_one pcE Try.underlying22 (off := 0) ⟨3, nn, []⟩ _ ?_) ?_ ?_ ?_
                · exact new_cells _ _ _
                · unfold maxLen; omega
                · omega
                intro A8 c8 w7 hown7 hg7 hat7 _)
              go_meet
              case rel =>
                refine ⟨out1 ++ [⟨3, nn, []⟩], A8, c8, Lib.hid (by rw [ho1.out]; simp only [flushed]; rw [if_pos hn]), by simp; omega, by simp, Lib.hid ?_, Lib.hid ((hb2.out.alloc hb2.out.size _).grown hg7 (by have := hb2.out.size; simp; omega) (fun g hg => (hoo1.out.lt g hg).1))⟩
                rw [List.length_append, pcE.flat_append]
                exact hown7
            · go_wp2
              go_meet
              case rel => exact ⟨out1, A7, c7, Lib.hid (by rw [ho1.out]; simp only [flushed]; rw [if_neg (show ¬ 0 < nn by omega)]), by omega, rfl, hoo1, hb2⟩
          case rest =>
            obtain ⟨out2, A8, c8, ho2, hl2, rfl, hoo2, hb3⟩ := hcut
            have Hin2 := Lib.hid (hI.out.out hex.out)
            go_upto_block 4 with (fail)
            go_cut [4, 6] (fun i mm wc => ∃ (j2 : Nat) (m : Int), j2 ≤ l.length ∧ i = .int .i64 j2 ∧ mm = .int .i64 m ∧ m ≤ 104857600000 ∧
              Hid (In2 l k j out text nn j2 m) ∧ Hid (j2 = l.length ∨ ∃ h : j2 < l.length, l[j2].k ≠ 1) ∧ Hid (wc.ownsRow w.heap.size 31 3 (.slice A8 out2.length c8) out2.length (pcE.flat out2)) ∧ Hid (Below w.heap.size w wc))
            case first =>
              go_wp2_with fail
              go_loop [4, 6] (fun i mm => ∃ (j2 : Nat) (m : Int), j2 ≤ l.length ∧ i = .int .i64 j2 ∧ mm = .int .i64 m ∧ 0 ≤ m ∧ m ≤ (j2 : Int) * 1048576 ∧ Hid (In2 l k j out text nn j2 m)) (fun i _ => l.length - (intOf i).toNat)
              case atStart => exact ⟨j, 0, hjl, rfl, rfl, Int.le_refl _, by omega, Hin2⟩
              case round =>
                obtain ⟨j2, m, hj2, rfl, rfl, hm0, hm1, hI2⟩ := hrel
                by_cases hj1 : j2 < l.length
                · obtain ⟨b, off, cap', hv, hb, hcells⟩ := Hh.out.pcB hj1
                  obtain ⟨rfl, rfl⟩ : A = some ⟨b, off, none⟩ ∧ cap = cap' := by injection hv with e1 e2 e3; exact ⟨e1, e3⟩
                  obtain ⟨q1, q2, q3⟩ := Hd2.out l[j2] (List.getElem_mem hj1)
                  have Hstep := Lib.hid (fun h => hI2.out.step hj1 (Hval.out _ (List.getElem_mem hj1)) h)
                  have Hone := Lib.hid (fun h : l[j2].k ≠ 1 => (Or.inr ⟨hj1, h⟩ : j2 = l.length ∨ ∃ h : j2 < l.length, l[j2].k ≠ 1))
                  have Hcells := Lib.hid hcells
                  clear hv hcells
                  generalize l[j2] = p at *
                  obtain ⟨c0, c1, c2⟩ := Hcells.out _ hb3.out
                  by_cases hp1 : (p.k == 1) = true
                  · have Hp1 := Lib.hid (show p.k = 1 by simpa using hp1)
                    go_wp2
                    go_round
                    case rel => exact ⟨j2 + 1, m + p.n, by omega, by go_num, rfl, by omega, by omega, Lib.hid (Hstep.out Hp1.out)⟩
                    case measure => simp [intOf]; omega
                  · have hp1' : (p.k == 1) = false := by simpa using hp1
                    have Hp1 := Lib.hid (show p.k ≠ 1 by simpa using hp1)
                    clear hp1
                    go_wp2
                    go_meet
                    case rel => exact ⟨j2, m, hj2, rfl, rfl, by omega, hI2, Lib.hid (Hone.out Hp1.out), hoo2, hb3⟩
                · go_wp2
                  go_meet
                  case rel => exact ⟨j2, m, hj2, rfl, rfl, by omega, hI2, Lib.hid (.inl (by omega)), hoo2, hb3⟩
            case rest =>
              obtain ⟨j2, m, hj2, rfl, rfl, hm1, hI2, hex2, hoo3, hb4⟩ := hcut
              obtain ⟨z1, z2, z3, z4⟩ := hI2.out.last hlt hex2.out
              have Z3 := Lib.hid z3; clear z3
              have Z4 := Lib.hid z4; clear z4
              by_cases hm : 0 < m
              · go_wp2_with (
                  at_builtin
                  refine wpListB_append _ rfl (.tmp 78) (.tmp 81) 22 22 rfl w.heap.size (by have := hb4.out.size; simp; omega) 31 i0 _ 3 32 Try.underlying22 hi hz0 hz1 hz2 rfl (by decide) _ _ _ rfl (hoo3.out.alloc _) _ 1 _ rfl (src_one pcE Try.underlying22 (off := 0) ⟨1, m, []⟩ _ ?_) ?_ ?_ ?_
                  · exact new_cells _ _ _
                  · unfold maxLen; omega
                  · omega
                  intro A9 c9 w9 hown9 hg9 hat9 _)
                go_roundw
                case rel =>
                  refine ⟨j2, out2 ++ [⟨1, m, []⟩], A9, c9, hj2, rfl, by simp, Lib.hid (by rw [ho2.out]; exact Z3.out (by omega)), Lib.hid ?_, Lib.hid ((hb4.out.alloc hb4.out.size _).grown hg9 (by have := hb4.out.size; simp; omega) (fun g hg => (hoo3.out.lt g hg).1))⟩
                  rw [List.length_append, pcE.flat_append]
                  exact hown9
                case measure => simp [intOf]; omega
              · go_wp2
                go_roundw
                case rel => exact ⟨j2, out2, A8, c8, hj2, rfl, rfl, Lib.hid (by rw [ho2.out]; exact Z4.out (by omega)), hoo3, hb4⟩
                case measure => simp [intOf]; omega
    · obtain rfl : k = l.length := by omega
      have hfin := hO.out.done
      subst hfin
      go_wp2
      go_ret
      exact ⟨_, rfl, hown.out, hbel.out⟩

end Go.Proofs.Ytdlbjfgpfjcpaaa
