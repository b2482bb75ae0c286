/- quartotop.TopVersions: the walk. -/
import Derived.Test.YtclmjnobacepjaaGreatTVer2
import Derived.Test.YtclmjnobacepjaaGreatJ37
import Derived.BigQuiet
import Derived.Deep.QuietTactic
import Derived.Test.YtclmjnobacepjaaGreatRows
import Derived.ProofKit
import Derived.OpenShut
import Derived.SizedLaws
import Derived.Carry
import Derived.Deep.Slices
import Derived.Deep.Fields
namespace Go.Proofs.YtclmjnobacepjaaGreat
open Go.RowKit

theorem Sl.keepB2 {α : Type} {E : Enc α} {w w' : World} {v : Value} {l : List α} (h : Sl E w v l) (hs : w.heap.size ≤ w'.heap.size) (hk : ∀ g, g < w.heap.size → w'.heap[g]? = w.heap[g]?) : Sl E w' v l := by
  obtain ⟨A, cap, rfl, h2, h3, h4⟩ := h
  refine ⟨A, cap, rfl, h2, h3, fun hp => ?_⟩
  obtain ⟨b, off, rfl, hb, hc⟩ := h4 hp
  exact ⟨b, off, rfl, Nat.lt_of_lt_of_le hb hs, fun i j x u hx hu => (World.cell?_of_block (a := ⟨b, _, none⟩) (hk b hb)).trans (hc i j x u hx hu)⟩
theorem below_frT {T : Nat → Prop} {m : Nat} {a b c : World} (h : Below m a b) (f : FrT T b c) (hm : m ≤ b.heap.size) (hT : ∀ k, T k → m ≤ k) : Below m a c :=
  ⟨f.os.trans h.os, f.tape.trans h.tape, f.output.trans h.output, Nat.le_trans h.size f.size, fun k hk => (f.block k (by omega) (fun q => by have := hT k q; omega)).trans (h.block k hk)⟩
theorem map_take_succ {α β : Type} (f : α → β) (l : List α) (k : Nat) (h : k < l.length) : (l.map f).take (k + 1) = (l.map f).take k ++ [f l[k]] := by
  rw [List.take_add_one, List.getElem?_map, List.getElem?_eq_getElem h]; rfl

set_option maxHeartbeats 8000000 in
set_option maxRecDepth 100000 in
theorem top_any (s : List UInt8) (Al : Option Addr) (cl : Nat) (l : List Ed) (w : World) (h : Sl edE w (.slice Al l.length cl) l) :
    Calls Tryz.prog 3 #[.string ⟨s.toArray⟩, .slice Al l.length cl] w fun e w' => e = .returned (.bool true) ∧ Below w.heap.size w w' := by
  have CF := Lib.hid (few_any s Al cl l w h)
  have HS := Lib.hid h
  cases hf : fewB s l
  · rw [hf] at CF
    clear h hf
    go_enter Tryz.func3, Tryz.ntmps3
    go_wp2_with fail
    refine CF.out.mono ?_
    rintro e w1 ⟨rfl, rfl⟩
    go_wp2_with fail
    go_ret
    exact ⟨rfl, Below.refl _ _⟩
  · rw [hf] at CF
    have HFB := Lib.hid hf
    have CN := Lib.hid (anew_any w)
    have HLL := Lib.hid (fewB_parts hf).2.1
    clear h hf
    go_enter Tryz.func3, Tryz.ntmps3
    go_wp2_with fail
    refine CF.out.mono ?_
    rintro e w0 ⟨rfl, rfl⟩
    go_wp2_with fail
    refine CN.out.mono ?_
    rintro e w1 ⟨A, rfl, hA, hb, hg⟩
    have CV := Lib.hid (versions_any A s l Al cl w1 hA (fun W p => HS.out.keepB2 (Nat.le_trans hb.size p.size) (fun g hlt => (p.block g (Nat.lt_of_lt_of_le hlt hb.size) (fun q => by have := hg g q; omega)).trans (hb.block g hlt))) HFB.out)
    have HB1 := Lib.hid hb; have HG := Lib.hid hg; have HA1 := Lib.hid hA
    clear CF CN hA hb hg HS
    go_wp2_with fail
    refine CV.out.mono ?_
    rintro e w2 ⟨G, vs, Av, cv, rfl, hA2, hO2, hF2, hP⟩
    have HB2 := Lib.hid (below_frT HB1.out hF2 HB1.out.size HG.out)
    have HL2 := Lib.hid (fun k (q : arT A k) => hA2.lt q)
    have HA2 := Lib.hid hA2; have HO2 := Lib.hid hO2; have HP := Lib.hid hP
    have hvl : (vs.length : Int) ≤ 11 := by have := hP.len; have := HLL.out; omega
    clear CV hA2 hO2 hF2 hP HB1 HA1
    go_wp2_with fail
    go_loopw [9, 10] (fun o i W => ∃ (k : Nat) (Ar : Option Addr) (cr : Nat), k ≤ vs.length ∧ i = .int .i64 k ∧ o = .slice Ar k cr ∧ Hid (Ow rtE W w2.heap.size 39 (.slice Ar k cr) ((vs.map (·.r)).take k)) ∧ Hid (Below w2.heap.size w2 W)) (fun _ i _ => vs.length - (intOf i).toNat)
    case atStart => exact ⟨0, none, 0, by omega, rfl, rfl, Lib.hid (Ow.nil _ _ _ _), Lib.hid (Below.refl _ _)⟩
    case round =>
      obtain ⟨k, Ar, cr, hk, rfl, rfl, HR, HB⟩ := hrel
      have hsz := HB.out.size
      by_cases hlt : k < vs.length
      · obtain ⟨bo, oo, capo, hvo, hblo, hcco⟩ := HO2.out.sl.vr hlt
        obtain ⟨rfl, rfl⟩ : Av = some ⟨bo, oo, none⟩ ∧ cv = capo := by injection hvo with e1 e2 e3; exact ⟨e1, e3⟩
        obtain ⟨o0, o1, o2, o3, o4, o5⟩ := hcco wr HB.out
        have HMEM := Lib.hid (List.getElem_mem hlt)
        have HTK := Lib.hid (map_take_succ (·.r) vs k hlt)
        have hki : (k : Int) < (vs.length : Int) := by omega
        have HCC := Lib.hid hcco
        have hbw := Nat.lt_of_lt_of_le hblo hsz
        clear hvo hcco
        generalize vs[k] = v at *
        obtain ⟨⟨ro, rh, rb, rr, rn⟩, T⟩ := v
        simp only at o0 o1 o2 o3 o4 o5
        obtain ⟨hrv, hTl⟩ := HP.out.rv _ HMEM.out
        simp only at hrv hTl
        have cT := text_any A G ⟨ro, rh, rb, rr, rn⟩ T wr (HA2.out.ext HB.out) hrv (by have := HLL.out; omega)
        have cC := fun W (p : Below w2.heap.size w2 W) => rcheck_any A G ⟨ro, rh, rb, rr, rn⟩ T W (HA2.out.ext p) hrv
        unfold Rt.v at cT cC
        have CT := Lib.hid cT; have CC := Lib.hid cC
        clear cT cC hrv hTl
        go_wp2_with fail
        refine CT.out.mono ?_
        rintro e w3 ⟨rfl, hb3⟩
        have HR3 := Lib.hid (HR.out.ext hb3 (Nat.le_refl _))
        have HB3 := Lib.hid (bcall HB.out hb3)
        clear HR HB hb3 o0 o1 o2 o3 o4 o5 hbw hsz CT
        obtain ⟨o0, o1, o2, o3, o4, o5⟩ := HCC.out w3 HB3.out
        have hsz := HB3.out.size
        have hbw := Nat.lt_of_lt_of_le hblo hsz
        go_wp2_with fail
        refine (CC.out _ HB3.out).mono ?_
        rintro e w4 ⟨rfl, hb4⟩
        have HR4 := Lib.hid (HR3.out.ext hb4 (Nat.le_refl _))
        have HB4 := Lib.hid (bcall HB3.out hb4)
        clear HR3 HB3 hb4 o0 o1 o2 o3 o4 o5 hbw hsz CC
        obtain ⟨o0, o1, o2, o3, o4, o5⟩ := HCC.out w4 HB4.out
        have hsz := HB4.out.size
        have hbw := Nat.lt_of_lt_of_le hblo hsz
        clear HCC
        go_wp2_with (at_builtin; refine Hid.out ?_)
        refine Lib.hid ?_
        refine wpOw1 _ rtOK rfl (.tmp 78) (.tmp 84) rfl w2.heap.size (by simp; omega) (.slice Ar k cr) ((vs.map (·.r)).take k) rfl (HR4.out.alloc _) ⟨ro, rh, rb, rr, rn⟩ w4.heap.size 1 rfl (new_cells _ _ _) (by rw [List.length_take]; omega) ?_
        rw [show ((vs.map (·.r)).take k).length = k by rw [List.length_take, List.length_map]; omega]
        intro A8 c8 w8 hown8 hg8
        have HO8 := Lib.hid hown8
        have HB8 := Lib.hid (((bal (Below.refl w4.heap.size w4) (o := .cells #[.int .u64 ro, .int .i64 rh, .int .i64 rb, .int .i64 rr, .int .i64 rn] 39)).mono hsz).grown hg8 (by simp; omega) (fun q hq => (HR4.out.lt q hq).1))
        clear hown8 hg8
        go_wp2_with fail
        go_roundw
        case rel => exact ⟨k + 1, A8, c8, by omega, by go_num, rfl, Lib.hid (by rw [HTK.out]; exact HO8.out), Lib.hid (HB4.out.trans HB8.out)⟩
        case measure => simp [intOf]; omega
      · obtain rfl : k = vs.length := by omega
        have hRl := HR.out.sl
        rw [List.take_of_length_le (by rw [List.length_map]; exact Nat.le_refl _)] at hRl
        have hrl : (vs.map (·.r)).length = vs.length := List.length_map _
        have hAW := HA2.out.ext HB.out
        have hr : ∀ r ∈ vs.map (·.r), ∃ T, RV G r T := fun r hr => by
          obtain ⟨v, hv, rfl⟩ := List.mem_map.1 hr
          exact ⟨_, (HP.out.rv v hv).1⟩
        have hc : ∀ x, (∃ r ∈ vs.map (·.r), RtR G r x) ↔ x < G.length := fun x => by
          rw [← HP.out.cov x]
          constructor
          · rintro ⟨r, hr, q⟩
            obtain ⟨v, hv, rfl⟩ := List.mem_map.1 hr
            exact ⟨v, hv, q⟩
          · rintro ⟨v, hv, q⟩
            exact ⟨_, List.mem_map.2 ⟨v, hv, rfl⟩, q⟩
        have hvl2 : vs.length ≤ 100 := by omega
        have CSA := Lib.hid (fun W (p : Below wr.heap.size wr W) => (show Calls Tryz.prog 9 #[.pointer (some ⟨A.ba, 0, none⟩), .slice Ar vs.length cr] W fun e w' => ∃ B c, e = .returned (.tuple #[.slice B G.length c, .int .i64 0]) ∧ Ow hndE w' W.heap.size 35 (.slice B G.length c) ((List.range G.length).map hd) ∧ Below W.heap.size W w' from by
          have := set_any A G (vs.map (·.r)) Ar cr W (hAW.ext p) (by rw [hrl]; exact hRl.ext p) hr (by omega) hc
          rw [hrl] at this
          exact this))
        have CLA := Lib.hid (fun W (p : Below wr.heap.size wr W) => (show Calls Tryz.prog 10 #[.pointer (some ⟨A.ba, 0, none⟩), .slice Ar vs.length cr, .slice none 0 0] W fun e w' => ∃ B c, e = .returned (.tuple #[.slice B 0 c, .int .i64 0]) ∧ Below W.heap.size W w' from by
          have := leaked_any A G (vs.map (·.r)) Ar cr W (hAW.ext p) (by rw [hrl]; exact hRl.ext p) hr (by omega) hc
          rw [hrl] at this
          exact this))
        have HAW := Lib.hid hAW
        have HL3 := Lib.hid (fun k (q : arT A k) => hAW.lt q)
        have HB3 := Lib.hid (bcall HB2.out HB.out)
        have hn : G.length ≤ 781 := Nat.le_trans HP.out.sz (bnd_le HLL.out)
        have hni : (G.length : Int) ≤ 781 := by omega
        clear hRl hrl hAW hr hc hvl2 HR HB HA2 HL2 HO2 HP HB2 hsz hlt hk
        go_wp2_with fail
        refine (CSA.out _ (Below.refl _ _)).mono ?_
        rintro e w4 ⟨B4, c4, rfl, hO4, hb4⟩
        have CL4 := Lib.hid (CLA.out _ hb4)
        have HO4 := Lib.hid hO4; have HB4 := Lib.hid hb4
        clear CSA CLA hO4 hb4
        go_wp2_with fail
        refine CL4.out.mono ?_
        rintro e w5 ⟨B5, c5, rfl, hb5⟩
        have HO5 := Lib.hid (HO4.out.ext hb5 (Nat.le_refl _))
        have HB5 := Lib.hid (bcall HB4.out hb5)
        clear CL4 HO4 HB4 hb5
        have CH := Lib.hid (fun W (p : Below wr.heap.size wr W) => ahandles_any A G W (HAW.out.ext p))
        go_wp2_with fail
        refine (CH.out _ HB5.out).mono ?_
        rintro e w6 ⟨B6, c6, rfl, hO6, hb6⟩
        have hs5 := (HO5.out.ext hb6 (Nat.le_refl _)).sl
        have hs6 := hO6.sl
        have HB6 := Lib.hid (bcall HB5.out hb6)
        have hlr : ((List.range G.length).map hd).length = G.length := by rw [List.length_map, List.length_range]
        have CE := Lib.hid (show Calls Tryz.prog 11 #[.slice B4 G.length c4, .slice B6 G.length c6] w6 _ from by
          have := eqh_any B4 B6 c4 c6 ((List.range G.length).map hd) w6 (by rw [hlr]; exact hs5) (by rw [hlr]; exact hs6) (by rw [hlr]; omega)
          rw [hlr] at this
          exact this)
        have HO6 := Lib.hid (HO5.out.ext hb6 (Nat.le_refl _))
        clear CH hO6 hb6 hs5 hs6 hlr HO5 HB5
        go_wp2_with fail
        refine CE.out.mono ?_
        rintro e w7 ⟨rfl, hb7⟩
        have HB7 := Lib.hid (bcall HB6.out hb7)
        have HO7 := Lib.hid (HO6.out.ext hb7 (Nat.le_refl _))
        have HS7 := Lib.hid ((HAW.out.ext HB7.out).frS)
        clear CE HO6 HB6 hb7 HAW
        go_wp2_with fail
        go_loopw [16] (fun i W => ∃ j : Nat, j ≤ G.length ∧ i = .int .i64 j ∧ Hid (FrS W A G.length j) ∧ Hid (FrT (arT A) w7 W)) (fun i _ => G.length - (intOf i).toNat)
        case atStart => exact ⟨0, by omega, rfl, HS7, Lib.hid (FrT.refl _ _)⟩
        clear HS7
        case round =>
          obtain ⟨j, hj, rfl, HF, HT⟩ := hrel
          by_cases hlj : j < G.length
          · have hsl := HO7.out.sl.keepB HT.out.size (fun g hg => HT.out.block g (HO7.out.lt g hg).2 (fun q => by have := HL3.out g q; have := (HO7.out.lt g hg).1; omega))
            obtain ⟨b3, o3, cap3, hv3, hbl3, hcc3⟩ := hsl.hnd (k := j) (by simpa using hlj)
            rw [List.length_map, List.length_range] at hv3
            obtain ⟨rfl, rfl⟩ : B4 = some ⟨b3, o3, none⟩ ∧ c4 = cap3 := by injection hv3 with e1 e2 e3; exact ⟨e1, e3⟩
            have q0 := hcc3 _ (Below.refl _ _)
            rw [List.getElem_map, List.getElem_range] at q0
            have CFR := Lib.hid (afree_any A G.length j wr HF.out hlj (by omega))
            have hji : (j : Int) < (G.length : Int) := by omega
            clear hcc3 hv3 hsl HF
            go_wp2_with fail
            refine CFR.out.mono ?_
            rintro e w8 ⟨rfl, hf8, ht8⟩
            have HF8 := Lib.hid hf8; have HT8 := Lib.hid (HT.out.trans ht8)
            clear CFR hf8 ht8 HT q0 hbl3
            go_wp2_with fail
            go_roundw
            case rel => exact ⟨j + 1, by omega, by go_num, HF8, HT8⟩
            case measure => simp [intOf]; omega
          · obtain rfl : j = G.length := by omega
            have CST := Lib.hid (HF.out.stats (by omega))
            have HBW := Lib.hid (below_frT (bcall HB3.out HB7.out) HT.out (bcall HB3.out HB7.out).size HG.out)
            clear HF HB3 HB7 HT HO7 HL3
            go_wp2_with fail
            refine CST.out.mono ?_
            rintro e w8 ⟨wd, rfl, hb8⟩
            have HB8 := Lib.hid (bcall HBW.out hb8)
            clear CST HBW hb8
            go_wp2_with fail
            go_ret
            exact ⟨rfl, bal HB8.out⟩

end Go.Proofs.YtclmjnobacepjaaGreat

/- What the arguments of TopVersions give the walk: a slice of edits reads as a list of edits; the row's last step from 'Below'. -/
namespace Go.Proofs.YtclmjnobacepjaaGreat
open Go.RowKit Go.WideShapes Go.ChangeShapes Go.ChangeAt Go.ChangeMaps Go.Deep

theorem cellsEdit : Tryz.prog.cellsOf 54 = 4 := by kernel_rfl
theorem cellsInt : Tryz.prog.cellsOf 3 = 1 := by kernel_rfl
theorem cellsStr : Tryz.prog.cellsOf 9 = 1 := by kernel_rfl
theorem laidOut : laidOutB Tryz.prog = true := by kernel_rfl
theorem ownNone : ownKnob Tryz.prog.godebug = none := by kernel_rfl

theorem str_list (s : ByteArray) : (⟨s.data.toList.toArray⟩ : ByteArray) = s := by cases s; simp
theorem addr_zero (a : Addr) : a.add 0 = a := by unfold Addr.add; simp

section
variable {H : Type} {enc : TypeId × Value → H} {w : World} {base : Nat} {spare : Nat → Bool} {held : Bool}

set_option maxRecDepth 100000 in
/-- four cells that read as an edit -/
theorem open_edit {n : Nat} {cs : List Value} {x : DataW H × List MemPlace} (h : DataW.trod enc Tryz.prog w base spare held n 54 cs = some x) : ∃ p : Ed, cs = edE.cells p := by
  obtain ⟨xs, m, -, -, hlen, hxl, hf⟩ := DataW.trod_struct Tryz.underlying54 h
  rw [cellsEdit] at hlen
  match cs, hlen with
  | [c0, c1, c2, c3], _ =>
    have h0 : DataW.trod enc Tryz.prog w base spare held m 3 (List.take (Tryz.prog.cellsOf 3) [c0, c1, c2, c3]) = xs[0]? := hf 0 _ rfl
    have h1 : DataW.trod enc Tryz.prog w base spare held m 3 (List.take (Tryz.prog.cellsOf 3) [c1, c2, c3]) = xs[1]? := hf 1 _ rfl
    have h2 : DataW.trod enc Tryz.prog w base spare held m 3 (List.take (Tryz.prog.cellsOf 3) [c2, c3]) = xs[2]? := hf 2 _ rfl
    have h3 : DataW.trod enc Tryz.prog w base spare held m 9 (List.take (Tryz.prog.cellsOf 9) [c3]) = xs[3]? := hf 3 _ rfl
    rw [cellsInt] at h0 h1 h2
    rw [cellsStr] at h3
    have l0 : xs[0]? = some (xs[0]'(by rw [hxl]; decide)) := List.getElem?_eq_getElem _
    have l1 : xs[1]? = some (xs[1]'(by rw [hxl]; decide)) := List.getElem?_eq_getElem _
    have l2 : xs[2]? = some (xs[2]'(by rw [hxl]; decide)) := List.getElem?_eq_getElem _
    have l3 : xs[3]? = some (xs[3]'(by rw [hxl]; decide)) := List.getElem?_eq_getElem _
    obtain ⟨a, e0, -, w0⟩ := DataW.trod_int Tryz.underlying3 (h0.trans l0)
    obtain ⟨b, e1, -, w1⟩ := DataW.trod_int Tryz.underlying3 (h1.trans l1)
    obtain ⟨c, e2, -, w2⟩ := DataW.trod_int Tryz.underlying3 (h2.trans l2)
    obtain ⟨s, e3, -, w3⟩ := DataW.trod_string Tryz.underlying9 (h3.trans l3)
    simp only [List.take_succ_cons, List.take_zero, List.cons.injEq, and_true] at e0 e1 e2 e3
    subst e0 e1 e2 e3
    exact ⟨⟨a, b, c, s.data.toList⟩, by simp [edE]⟩

set_option maxRecDepth 100000 in
/-- a slice of edits -/
theorem open_edits {v : Value} {d : DataW H} {ps : List MemPlace} (hs : ∀ b, spare b = true) (hval : Value.okWide Tryz.prog w .any base 22 v) (h : DataW.Trod enc Tryz.prog w 0 spare held 22 v d ps) :
    ∃ l : List Ed, Sl edE w v l := by
  obtain ⟨a0, len0, cap0, rfl⟩ := okWide_slice Tryz.underlying22 hval
  obtain ⟨fuel, hf⟩ := h
  rcases open_slice Tryz.underlying22 hf with ⟨hcs, hx⟩ | ⟨a, len, cap, m, n, D, Pl, hcs, hb, hl, hm, hmm, hx, hi⟩
  · simp [Value.cells] at hcs
    obtain ⟨rfl, rfl, rfl⟩ := hcs
    simp only [Prod.mk.injEq] at hx
    exact ⟨[], Sl.nil edE w⟩
  · simp [Value.cells] at hcs
    obtain ⟨rfl, rfl, rfl⟩ := hcs
    rw [cellsEdit] at hx hi
    rw [if_pos (hs _)] at hmm
    subst hmm
    simp only [Prod.mk.injEq] at hx
    have hpc : ∀ i, i < len0 → ∃ p : Ed, ∀ j u, (edE.cells p)[j]? = some u → w.cell? ((a.add (i * 4)).add j) = some u := by
      intro i hlt
      obtain ⟨cs', hc, ht⟩ := hi i (by omega)
      obtain ⟨-, hcl, hat⟩ := World.cells?_some hc
      obtain ⟨p, rfl⟩ := open_edit ht
      refine ⟨p, fun j u hj => ?_⟩
      have hj3 : j < 4 := by
        have := (List.getElem?_eq_some_iff.1 hj).1
        simpa [edE] using this
      rw [hat j hj3]; exact hj
    have hch : ∃ l : List Ed, l.length = len0 ∧ ∀ i p, l[i]? = some p → ∀ j u, (edE.cells p)[j]? = some u → w.cell? ((a.add (i * 4)).add j) = some u := by
      clear hx hi hl hf hval hb
      induction len0 with
      | zero => exact ⟨[], rfl, fun i p h => by simp at h⟩
      | succ k ih =>
        obtain ⟨l, hll, hlp⟩ := ih (fun i hi => hpc i (by omega))
        obtain ⟨p, hp⟩ := hpc k (by omega)
        refine ⟨l ++ [p], by simp [hll], fun i q hq => ?_⟩
        rcases Nat.lt_or_ge i l.length with hlt | hge
        · rw [List.getElem?_append_left hlt] at hq
          exact hlp i q hq
        · rw [List.getElem?_append_right hge] at hq
          have hi0 : i - l.length = 0 := by
            have := (List.getElem?_eq_some_iff.1 hq).1
            simp at this
            omega
          rw [hi0] at hq
          simp at hq
          subst hq
          have : i = k := by omega
          subst this
          exact hp
    obtain ⟨l, hll, hlp⟩ := hch
    subst hll
    refine ⟨l, ⟨some a, _, rfl, hl, hm, fun h0 => ?_⟩⟩
    · have hp0 := (hlp 0 l[0] (List.getElem?_eq_getElem h0)) 0 _ rfl
      rw [Nat.zero_mul, addr_zero, addr_zero] at hp0
      obtain ⟨b, off, sp⟩ := a
      cases sp with
      | some y =>
        unfold World.cell? at hp0
        split at hp0
        · simp at hp0
        · cases hp0
      | none =>
        refine ⟨b, off, rfl, ?_, fun i j x u hx' hu => ?_⟩
        · apply Classical.byContradiction
          intro hn
          unfold World.cell? at hp0
          rw [Array.getElem?_eq_none (by show w.heap.size ≤ b; omega)] at hp0
          cases hp0
        · have := (hlp i x hx') j u hu
          rw [add_of_add, add_flat] at this
          exact this
end

/-- an argument's reading stays, whatever is counted as spare -/
theorem trod_kept {t : TypeId} (hr : Tryz.prog.readableRec t = true) (hrow : t < Tryz.prog.types.size) {H : Type} {enc : TypeId × Value → H} {W W' : World} {sp : Nat → Bool} {v : Value} {d : DataW H} {ps : List MemPlace}
    (h : DataW.Trod enc Tryz.prog W 0 (fun _ => true) true t v d ps) (hb : Below W.heap.size W W') (hlt : ∀ x ∈ ps, x.block < W.heap.size) (hsp : ∀ x ∈ ps, sp x.block = true) : DataW.Trod enc Tryz.prog W' 0 sp true t v d ps :=
  WideElems.Trod_stays laidOut hr hrow h (fun x hx => hb.same (hlt x hx)) hsp

/-- the row's last step, for a law that returns true and changes nothing below its own blocks -/
theorem post_true {H : Type} {enc : TypeId × Value → H} {f : Func} {s : ChangeSpec} {W W' : World} {args : Array Value} {ds : List (DataW H)} {before : List MemPlace} (hvs : s.vars = [])
    (hW : DataW.Whole enc Tryz.prog f.params.toList s.vars false W args.toList ds [] before) (hrt : f.resultTypes = #[4])
    (hr : (s.fn H ds).results = [.lit (.bool true)]) (ha : (s.fn H ds).args = ds) (hv : (s.fn H ds).vars = [])
    (hargs : ∀ sp : Nat → Bool, (∀ p ∈ before, sp p.block = true) → DataW.TrodAll enc Tryz.prog W' 0 sp true f.params.toList args.toList ds before) (hb : Below W.heap.size W W') :
    s.post enc Tryz.prog f false true false false W args (.bool true) W' := by
  have hlt : ∀ p ∈ before, p.block < W.heap.size := fun p hp => hW.lt p hp
  have hold : ∀ p ∈ before, (fun b => decide (b < W.heap.size)) p.block = true := fun p hp => by simpa using hlt p hp
  refine ⟨ds, [], before, [], before, [], hW, ?_, ?_, ?_, World.keptBut_mono (fun p hp => ⟨hp, ?_⟩) (hb.frame (· ∈ before)), fun h => by cases h⟩
  · rw [List.append_nil, hr, hrt]
    exact trodAll_cons_mk (shut_bool Tryz.underlying4 _) trodAll_mk0
  · rw [List.append_nil, ha]
    exact hargs _ hold
  · rw [List.append_nil, hv, hvs]
    rfl
  · simpa using hp

end Go.Proofs.YtclmjnobacepjaaGreat
