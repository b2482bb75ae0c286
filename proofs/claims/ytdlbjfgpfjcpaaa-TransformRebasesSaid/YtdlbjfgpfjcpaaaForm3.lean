/- delta.form: it returns the normal form of its pieces in memory of its own. Condition: at most 100000 pieces, none longer than 2^20. -/
import Derived.Test.YtdlbjfgpfjcpaaaForm2
namespace Go.Proofs.Ytdlbjfgpfjcpaaa
open Go.RowKit

theorem boxAt (w : World) (p : Pc) (t : TypeId) {w1 : World} {T : Nat → Prop} (hf : Fr T (w.alloc (.cells p.cells.toArray t)) w1) (hT : ¬ T w.heap.size) :
    w1.cell? ⟨w.heap.size, 0, none⟩ = some (.int .u8 p.k) ∧ w1.cell? ⟨w.heap.size, 1, none⟩ = some (.int .i64 p.n) ∧ w1.cell? ⟨w.heap.size, 2, none⟩ = some (.string ⟨p.t.toArray⟩) ∧ w.heap.size < w1.heap.size := by
  have h : w1.heap[w.heap.size]? = some (.cells p.cells.toArray t (0, 0)) := (hf.block _ (by simp) hT).trans (heap_alloc_new w _)
  refine ⟨?_, ?_, ?_, heap_lt h⟩ <;> (rw [Lib.cell_of_heap h]; rfl)

/-- what holds at the head of form's loop, behind k pieces -/
structure FInv (w wr : World) (l : List Pc) (k : Nat) (ro rt : Option Nat) : Prop where
  fs : FmS wr w.heap.size (w.heap.size + 1) (w.heap.size + 1 + 1) ro rt (formSt (l.take k)).out (formSt (l.take k)).text (formSt (l.take k)).gone
  new : ∀ j, fsOf w.heap.size (w.heap.size + 1) (w.heap.size + 1 + 1) ro rt j → w.heap.size ≤ j
  bel : Below w.heap.size w wr

theorem FInv.step {w wr w1 : World} {l : List Pc} {k : Nat} {ro rt ro' rt' : Option Nat} (h : FInv w wr l k ro rt) (hk : k < l.length) (o : Obj)
    (hs : FmS w1 w.heap.size (w.heap.size + 1) (w.heap.size + 1 + 1) ro' rt' (formStep (formSt (l.take k)) l[k]).out (formStep (formSt (l.take k)) l[k]).text (formStep (formSt (l.take k)) l[k]).gone)
    (hf : Fr (fsOf w.heap.size (w.heap.size + 1) (w.heap.size + 1 + 1) ro rt) (wr.alloc o) w1)
    (hn : ∀ j, fsOf w.heap.size (w.heap.size + 1) (w.heap.size + 1 + 1) ro' rt' j → fsOf w.heap.size (w.heap.size + 1) (w.heap.size + 1 + 1) ro rt j ∨ wr.heap.size ≤ j) : FInv w w1 l (k + 1) ro' rt' := by
  have e : formSt (l.take (k + 1)) = formStep (formSt (l.take k)) l[k] := by
    unfold formSt
    rw [List.take_succ_eq_append_getElem hk, List.foldl_append]
    rfl
  refine ⟨by rw [e]; exact hs, fun j hj => ?_, ?_⟩
  · rcases hn j hj with h' | h'
    · exact h.new j h'
    · have := h.bel.size; omega
  · exact (h.bel.alloc h.bel.size o).trans (hf.below (by have := h.bel.size; simp; omega) h.new)

theorem FInv.start (w : World) (l : List Pc) : FInv w (((w.alloc (.cells #[.slice none 0 0] 22)).alloc (.cells #[.pointer none, .slice none 0 0] 114)).alloc (.cells #[.int .i64 0] 3)) l 0 none none := by
  have b1 := Bd.new (w.alloc (.cells #[.slice none 0 0] 22))
  have v1 := Var.new w 22 (.slice none 0 0)
  have g1 := Var.new ((w.alloc (.cells #[.slice none 0 0] 22)).alloc (.cells #[.pointer none, .slice none 0 0] 114)) 3 (.int .i64 0)
  simp only [World.size_alloc] at b1 g1
  refine ⟨⟨⟨_, (v1.keep (Fr.alloc (fun _ => False) _ _) (fun h => h)).keep (Fr.alloc (fun _ => False) _ _) (fun h => h), World.ownsRow_nil _ _ _ _, rfl⟩, b1.keep (Fr.alloc (fun _ => False) _ _) (fun h => h) (fun _ _ h => h), g1⟩, ?_, ?_⟩
  · rintro j (h | h | h | h | h)
    · omega
    · omega
    · omega
    · cases h
    · cases h
  · exact (((Below.refl _ _).alloc (Nat.le_refl _) _).alloc (by simp) _).alloc (by simp; omega) _

set_option maxHeartbeats 4000000 in
set_option maxRecDepth 100000 in
theorem form_any (v : Value) (l : List Pc) (w : World) (h : Sl pcE w v l) (hd : FormPre l) :
    Calls Try.prog 72 #[v] w fun e w' => ∃ v', e = .returned v' ∧ w'.ownsRow w.heap.size 31 3 v' (formS l).length (pcE.flat (formS l)) ∧ Below w.heap.size w w' := by
  obtain ⟨A, cap, hv, h2, h3, -⟩ := id h
  have Hh := Lib.hid h; clear h
  subst hv
  unfold maxLen at h3
  obtain ⟨i0, hi, hz0, hz1, hz2⟩ := info_parts infoPiece
  obtain ⟨hd1, hd2⟩ := hd
  have hmf : ∀ (fn : Fn) (first cap : Array Value) (w : World), (Instr.makeFunc fn first cap).run Try.prog w = .ok (.func fn first cap) w := fun _ _ _ _ => rfl
  go_enter Try.func72, Try.ntmps72
  go_wp2_with fail
  go_loopw [13] (fun i wr => ∃ (k : Nat) (ro rt : Option Nat), k ≤ l.length ∧ i = .int .i64 k ∧ FInv w wr l k ro rt) (fun i _ => l.length - (intOf i).toNat)
  case atStart => exact ⟨0, none, none, by omega, rfl, FInv.start w l⟩
  case round =>
    obtain ⟨k, ro, rt, hk, rfl, hI⟩ := hrel
    have bd := formSt_bd (d := 1048576) (l.take k) (fun p hp => hd2 p (List.mem_of_mem_take hp))
    rw [List.length_take, Nat.min_eq_left hk] at bd
    have hI0 := Lib.hid hI
    have hFS := hI.fs
    generalize hst : formSt (l.take k) = st at bd hFS
    have Hst := Lib.hid hst; clear hst
    obtain ⟨out, text, gone⟩ := st
    obtain ⟨bd1, bd2, bd3, bd4, bd5⟩ := bd
    dsimp only at bd1 bd2 bd3 bd4 bd5 hFS
    have HFS := Lib.hid hFS
    have Hbd5 := Lib.hid bd5
    clear bd5 hI
    by_cases hlt : k < l.length
    · obtain ⟨q1, q2, q3⟩ := hd2 l[k] (List.getElem_mem hlt)
      obtain ⟨b, off, cap', hv, hb, c0, c1, c2⟩ := (Hh.out.ext hI0.out.bel).pc hlt
      obtain ⟨rfl, rfl⟩ : A = some ⟨b, off, none⟩ ∧ cap = cap' := by injection hv with e1 e2 e3; exact ⟨e1, e3⟩
      clear hv hd2
      have hstep := @FInv.step w wr
      have Hstep := Lib.hid (fun w1 ro' rt' => @FInv.step w wr w1 l k ro rt ro' rt' hI0.out hlt)
      clear hstep
      rw [Hst.out] at Hstep
      generalize l[k] = p at *
      clear hFS
      have hlo := HFS.out.lt
      have Hlo := Lib.hid hlo; clear hlo
      have nofs : ∀ o : Obj, FmS (wr.alloc o) w.heap.size (w.heap.size + 1) (w.heap.size + 1 + 1) ro rt out text gone := fun o => HFS.out.keep (Fr.alloc (fun _ => False) wr o) (fun _ _ h => h)
      have Nofs := Lib.hid nofs; clear nofs
      by_cases hk2 : (p.k == 2) = true
      · have e2 : p.k = 2 := by simpa using hk2
        have E2 := Lib.hid e2; clear e2
        have bT2 : Bd (wr.alloc (.cells p.cells.toArray 31)) (w.heap.size + 1) rt text := (Nofs.out _).t
        go_wp2_with (go_at_call 105; refine (writeString_any (w.heap.size + 1) rt text p.t _ bT2 (by omega)).mono ?_; rintro e w1 ⟨rfl, ⟨rt', hB', hr'⟩, hf'⟩)
        go_roundw
        case rel =>
          obtain ⟨r1, r2, r3⟩ := fs_write (Nofs.out _) hB' hr' hf'
          have e : formStep ⟨out, text, gone⟩ p = ⟨out, text ++ p.t, gone⟩ := by simp [formStep, E2.out]
          have hs := Hstep.out w1 ro rt'
          rw [e] at hs
          exact ⟨k + 1, ro, rt', by omega, by go_num, hs _ r1 r2 (fun j hj => (r3 j hj).imp id (fun h => by simp at h; omega))⟩
        case measure => simp [intOf]; omega
      by_cases hk3 : (p.k == 3) = true
      · have hk2' : (p.k == 2) = false := by simpa using hk2
        clear hk2
        have e3 : p.k = 3 := by simpa using hk3
        have E3 := Lib.hid e3; clear e3
        have cg := ((Nofs.out (.cells p.cells.toArray 31)).g).cell
        have fg := ((Nofs.out (.cells p.cells.toArray 31)).g).frozen
        dsimp only [Pc.cells, List.toArray] at cg fg
        go_wp2
        go_roundw
        case rel =>
          obtain ⟨r1, r2⟩ := fs_gone (Nofs.out (.cells p.cells.toArray 31)) (gone + p.n)
          have e : formStep ⟨out, text, gone⟩ p = ⟨out, text, gone + p.n⟩ := by simp [formStep, E3.out]
          have hs := fun w1 => Hstep.out w1 ro rt
          rw [e] at hs
          exact ⟨k + 1, ro, rt, by omega, by go_num, hs _ _ r1 r2 (fun j hj => .inl hj)⟩
        case measure => simp [intOf]; omega
      · have hk2' : (p.k == 2) = false := by simpa using hk2
        have hk3' : (p.k == 3) = false := by simpa using hk3
        have e0 : formStep ⟨out, text, gone⟩ p = ⟨addRetain (flushed out text gone) p, [], 0⟩ := by
          simp [formStep]
          rw [if_neg (by simpa using hk2'), if_neg (by simpa using hk3')]
        have E0 := Lib.hid e0; clear e0
        clear hk2 hk3
        obtain ⟨fl1, fl2⟩ := flushed_bd (k := k) (c := k * 1048576) (s := ⟨out, text, gone⟩) ⟨bd1, bd2, bd3, bd4, Hbd5.out⟩
        have Fl2 := Lib.hid fl2; clear fl2
        go_wp2_with fail
        refine (flush_any (w.heap.size) (w.heap.size + 1) (w.heap.size + 1 + 1) ro rt out text gone _ (Nofs.out (.cells p.cells.toArray 31)) bd3 (by omega)).mono ?_
        rintro e w1 ⟨rfl, ro1, rt1, fs1, fr1, nw1⟩
        have FS1 := Lib.hid fs1; clear fs1
        have Fr1 := Lib.hid fr1; clear fr1
        have Nw1 := Lib.hid nw1; clear nw1
        generalize hfo : flushed out text gone = out1 at *
        have Hfo := Lib.hid hfo; clear hfo
        obtain ⟨x0, x1, x2, x3⟩ := boxAt wr p 31 Fr1.out (fun h => by have := Hlo.out _ h; omega)
        obtain ⟨v1, hv1, ho1, hr1⟩ := FS1.out.o
        have co1 := hv1.cell
        have fo1 := hv1.frozen
        have lo1 := hv1.lt
        have Hr1 := Lib.hid hr1; clear hr1
        rcases List.eq_nil_or_concat out1 with hn | ⟨ini, q, hn⟩
        · subst hn
          obtain ⟨A1, cp1, rfl⟩ := own_form _ ho1
          go_wp2_with (
            at_builtin
            refine wpList_append _ rfl (.tmp 45) (.tmp 47) 22 22 rfl 31 i0 _ 3 32 Try.underlying22 hi hz0 hz1 hz2 rfl (by decide) _ _ _ rfl (ho1.alloc _) _ 1 _ rfl (src_one pcE Try.underlying22 (off := 0) p _ ?_) ?_ ?_ ?_
            · exact new_cells w1 _ _
            · unfold maxLen; simp
            · simp
            intro A5 c5 w5 hown5 hg5 hat5 _
            have hP := Lib.hid (fs_push FS1.out hv1 ho1 Hr1.out (x := p) (w2 := w5) (V2 := .slice A5 (0 + 1) c5) hg5 (by rcases hat5 with e | e; exact .inl e; exact .inr ⟨_, e, by simp⟩) hown5)
            have co5 := hP.out.1.cell
            have fo5 := hP.out.1.frozen)
          go_roundw
          case rel =>
            obtain ⟨r0, r1, r2, r3⟩ := hP.out
            have hs := fun w1 ro' rt' => Hstep.out w1 ro' rt'
            rw [E0.out] at hs
            obtain ⟨t1, t2⟩ := fs_trans Fr1.out Nw1.out r2 r3
            exact ⟨k + 1, _, _, by omega, by go_num, hs _ _ _ _ r1 t1 (fun j hj => (t2 j hj).imp id (fun h => by simp at h; omega))⟩
          case measure => simp [intOf]; omega
        · rw [List.concat_eq_append] at hn
          have hpos : 0 < out1.length := by rw [hn]; simp
          have hpos' : (0 : Int) < (out1.length : Int) := by omega
          obtain ⟨g, cp1, rfl, -, hg, y0, y1, y2, fy⟩ := own_pc ho1 (k := out1.length - 1) (by omega)
          have hq : out1[out1.length - 1]'(by omega) = q := by simp [hn]
          rw [hq] at y0 y1 y2
          have Hn := Lib.hid hn; clear hn
          have Hq := Lib.hid hq; clear hq
          have fy1 := fy ((out1.length - 1) * 3 + 1)
          clear fy
          have e5 : ini.length = out1.length - 1 := by rw [Hn.out]; simp
          have E5 := Lib.hid e5; clear e5
          have bq := Fl2.out
          obtain ⟨bq1, bq2⟩ := bq q (by rw [Hn.out]; simp)
          clear bq
          by_cases hq1 : (q.k == 1) = true
          · have e1 : q.k = 1 := by simpa using hq1
            have e2 : addRetain out1 p = ini ++ [⟨q.k, q.n + p.n, q.t⟩] := by
              rw [Hn.out]; simp [addRetain, e1]
            have E1 := Lib.hid e1; clear e1
            have E2 := Lib.hid e2; clear e2
            go_wp2
            go_region
            all_goals go_wp2
            all_goals
              go_roundw
              case rel =>
                have hF := FS1.out
                rw [Hn.out] at hF
                obtain ⟨r1, r2⟩ := fs_bump (w := w1) hF (g := g) (cap := cp1) (by have hv := hv1; rw [Hn.out] at hv; exact hv) (q.n + p.n)
                rw [E5.out] at r1 r2
                have hs := fun w1 ro' rt' => Hstep.out w1 ro' rt'
                rw [E0.out] at hs
                obtain ⟨t1, t2⟩ := fs_trans Fr1.out Nw1.out r2.drew (fun j hj => .inl hj)
                exact ⟨k + 1, ro1, rt1, by omega, by go_num, hs _ _ _ _ (by rw [E2.out]; exact r1.keep (Fr.drew (Fr.refl (fun _ => False) _)) (fun _ _ h => h)) t1 (fun j hj => (t2 j hj).imp id (fun h => by simp at h; omega))⟩
              case measure => simp [intOf]; omega
          · have e1 : ¬ q.k = 1 := by simpa using hq1
            have hq1' : (q.k == 1) = false := by simpa using hq1
            have e2 : addRetain out1 p = out1 ++ [p] := by
              rw [Hn.out]; simp [addRetain, e1]
            have E2 := Lib.hid e2; clear e2
            clear e1 hq1
            go_wp2_with (
              at_builtin
              refine wpList_append _ rfl (.tmp 45) (.tmp 47) 22 22 rfl 31 i0 _ 3 32 Try.underlying22 hi hz0 hz1 hz2 rfl (by decide) _ _ _ rfl (ho1.alloc _) _ 1 _ rfl (src_one pcE Try.underlying22 (off := 0) p _ ?_) ?_ ?_ ?_
              · exact new_cells w1 _ _
              · unfold maxLen; omega
              · omega
              intro A5 c5 w5 hown5 hg5 hat5 _
              have hP := Lib.hid (fs_push FS1.out hv1 ho1 Hr1.out (x := p) (w2 := w5) (V2 := .slice A5 (out1.length + 1) c5) hg5 (by rcases hat5 with e | e; exact .inl e; exact .inr ⟨_, e, by simp⟩) hown5)
              have co5 := hP.out.1.cell
              have fo5 := hP.out.1.frozen)
            go_roundw
            case rel =>
              obtain ⟨r0, r1, r2, r3⟩ := hP.out
              have hs := fun w1 ro' rt' => Hstep.out w1 ro' rt'
              rw [E0.out] at hs
              obtain ⟨t1, t2⟩ := fs_trans Fr1.out Nw1.out r2 r3
              exact ⟨k + 1, _, _, by omega, by go_num, hs _ _ _ _ (by rw [E2.out]; exact r1) t1 (fun j hj => (t2 j hj).imp id (fun h => by simp at h; omega))⟩
            case measure => simp [intOf]; omega
    · have hkl : l.take k = l := List.take_of_length_le (by omega)
      have hfs : formS l = flushed out text gone := by
        unfold formS
        rw [← hkl, Hst.out]
      have Hfs := Lib.hid hfs; clear hfs
      have Hkl := Lib.hid hkl; clear hkl
      clear hFS hd2
      go_wp2_with fail
      refine (flush_any (w.heap.size) (w.heap.size + 1) (w.heap.size + 1 + 1) ro rt out text gone wr HFS.out bd3 (by omega)).mono ?_
      rintro e w1 ⟨rfl, ro1, rt1, fs1, fr1, nw1⟩
      obtain ⟨v1, hv1, ho1, hr1⟩ := fs1.o
      have co1 := hv1.cell
      have Hr1 := Lib.hid hr1
      have Nw1 := Lib.hid nw1
      clear fs1 hr1 nw1
      go_wp2
      go_ret
      refine ⟨_, rfl, ?_, hI0.out.bel.trans (fr1.below hI0.out.bel.size hI0.out.new)⟩
      rw [Hfs.out]
      refine ⟨ho1.1, ?_⟩
      rcases ho1.2 with h0 | ⟨g, cp, cur, h0, _, hg, rest⟩
      · exact .inl h0
      · refine .inr ⟨g, cp, cur, h0, ?_, hg, rest⟩
        have hb := Nw1.out g (.inr (.inr (.inr (.inl (by rw [← Hr1.out, h0]; rfl)))))
        rcases hb with hb | hb
        · exact hI0.out.new g hb
        · have := hI0.out.bel.size; omega

end Go.Proofs.Ytdlbjfgpfjcpaaa
