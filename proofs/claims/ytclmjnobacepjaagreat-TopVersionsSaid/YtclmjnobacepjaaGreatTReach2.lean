/- package reach: atLeast, Set, Leaked. -/
import Derived.Test.YtclmjnobacepjaaGreatJ38
import Derived.Test.YtclmjnobacepjaaGreatTSortH
namespace Go.Proofs.YtclmjnobacepjaaGreat
open Go.RowKit Go.Maps

theorem perm_range {L : List Nat} {n : Nat} (h : L.Nodup) (hm : ∀ x, x ∈ L ↔ x < n) : L.Perm (List.range n) := (List.perm_ext_iff_of_nodup h List.nodup_range).2 fun x => by rw [hm, List.mem_range]

set_option maxHeartbeats 4000000 in
set_option maxRecDepth 100000 in
theorem atLeast_any (b m n : Nat) (w : World) (h : CtM w b m (fun x => x < n)) (hn : n ≤ 1000) :
    Calls Tryz.prog 25 #[.map (some b), .int .i64 1] w fun e w' => ∃ A c, e = .returned (.slice A n c) ∧ Ow hndE w' w.heap.size 35 (.slice A n c) ((List.range n).map hd) ∧ Below w.heap.size w w' := by
  obtain ⟨f, cnt, ⟨n1, D, hown, hb1, hb2, hb3, hb4⟩, hc, hf1, hf2⟩ := h
  have CS := Lib.hid (fun A c L W (p : Sl hndE W (.slice A L.length c) (L.map hd)) (q : L.Perm (List.range n)) (z : L = [] → A = none ∧ c = 0) => hsort_any A c L n W p q hn z)
  have HOWN := Lib.hid hown; have HB2 := Lib.hid hb2; have HB3 := Lib.hid hb3; have HF1 := Lib.hid hf1; have HF2 := Lib.hid hf2
  have hbl := hown.lt
  clear hown hb1 hb2 hb3 hb4 hc hf1 hf2
  go_enter Tryz.func25, Tryz.ntmps25
  go_wp2_with (first
      | (at_range; refine wpList_range_own _ rfl _ 87 rfl 35 3 lawH Tryz.underlying87 _ b n1 _ rfl HOWN.out ?_; intro w0 hrg0 hg0 hs0)
      | fail)
  have hb0 := Lib.hid (show Below w.heap.size w w0 from ⟨hg0.os, hg0.tape, hg0.output, hg0.size, fun k hk => hg0.block k hk (by simp)⟩)
  have RG0 := Lib.hid hrg0
  clear hrg0 hg0 HOWN
  go_loopw [5] (fun o wr => ∃ (left : Lit → Bool) (cnt : Nat) (L : List Nat) (A : Option Addr) (c : Nat), o = .slice A L.length c ∧ Hid (wr.ranges Tryz.prog 35 hR b w.heap.size n1 D left cnt) ∧ Hid (MetL (fun x => x < n) left L) ∧ Hid (∀ k, left k = true → has D k = true) ∧ Hid (Ow hndE wr (w.heap.size + 1) 35 (.slice A L.length c) (L.map hd)) ∧ Hid (L = [] → A = none ∧ c = 0) ∧ Hid (Below w.heap.size w wr)) (fun _ wr => wr.rangeLeft b w.heap.size)
  case atStart =>
    refine ⟨_, _, [], none, 0, rfl, RG0, Lib.hid ⟨List.nodup_nil, by simp, fun k hk => ?_⟩, Lib.hid (fun k q => q), Lib.hid (Ow.nil _ _ _ _), Lib.hid (fun _ => ⟨rfl, rfl⟩), hb0⟩
    rw [HB2.out k hk, HF1.out k]
    simp
  clear RG0 hb0
  case round =>
    obtain ⟨left, cnt, L, A, c, rfl, hrg, hM, hL, hO, hZ, hB⟩ := hrel
    have hsz := hB.out.size
    go_wp2_with (at_next; refine Hid.out ?_)
    refine Lib.hid ?_
    refine wpList_next_ranges _ rfl _ rfl 35 lawH hR (Value.int .u64) (fun v : Value => v) (fun key kl hk => by obtain ⟨x, e, _⟩ := kH_inv hk; exact ⟨x, e⟩) (fun v y hy => ⟨v, rfl⟩) b w.heap.size n1 D left cnt rfl hrg.out ?_ ?_
    · intro _ hl0
      have hp : L.Perm (List.range n) := perm_range hM.out.1 fun x => ⟨fun q => hM.out.2.1 x q, fun q => Classical.byContradiction fun q2 => by
        have := (hM.out.2.2 (hd x : Nat) (inH_hd (by omega))).2 ⟨x, q, q2, rfl⟩
        rw [hl0] at this
        cases this⟩
      have C1 := Lib.hid (CS.out A c L wr hO.out.sl hp hZ.out)
      clear hl0 hp CS hrg hM hL hO hZ
      go_wp2_with fail
      refine C1.out.mono ?_
      rintro e w9 ⟨A9, c9, rfl, ho9, hb9⟩
      have HO9 := Lib.hid ho9; have HB9 := Lib.hid hb9
      clear ho9 hb9 C1
      go_wp2_with fail
      go_ret
      exact ⟨A9, c9, rfl, HO9.out.base hsz, bcall hB.out HB9.out⟩
    · intro x v kl y w1 cnt1 hkey hlx hy hat hrg1 hlt1 hg1 hs1 hen
      obtain ⟨x', ex, rfl, hwf⟩ := kH_inv hkey
      cases ex
      obtain rfl := hR_inv hy
      have hin := inH_wf hwf
      obtain ⟨i, hi, hni, rfl⟩ := (hM.out.2.2 x hin).1 hlx
      have hv := hat (.held (.int .i64 0))
      rw [HB3.out _ _ hin] at hv
      have hs := (HF1.out (hd i : Nat)).2 ⟨i, hi, rfl⟩
      obtain ⟨u, hu⟩ := Option.isSome_iff_exists.1 hs
      obtain ⟨cc, rfl, hc1, hc2⟩ := HF2.out _ _ hu
      rw [hu] at hv
      obtain rfl : v = .int .i64 cc := by
        have : DataW.held (Value.int .i64 cc) = DataW.held v := hv
        injection this with e
        exact e.symm
      have hci : (1 : Int) ≤ cc := by omega
      have hll : L.length ≤ 1000 := nodup_le hM.out.1 (fun x hx => by have := hM.out.2.1 x hx; omega)
      have HM := Lib.hid (hM.out.more hi hni)
      have HL := Lib.hid (fun k (q : (left k && !k.sameKey (.int .u64 (hd i : Nat))) = true) => hL.out k (Bool.and_eq_true_iff.1 q).1)
      have HO1 := Lib.hid (hO.out.kept fun g hg => hg1.block g (hO.out.lt g hg).2 (fun e => by have := (hO.out.lt g hg).1; have := Option.some.inj e; omega))
      have RG1 := Lib.hid hrg1
      have HC := Lib.hid hrg.out.left_eq
      have HB1 := Lib.hid (hB.out.grown hg1 hsz (fun q hq => by obtain rfl := Option.some.inj hq; exact Nat.le_refl _))
      have HB0 := Lib.hid hbl
      have HS1 := Lib.hid hs1
      have hz1 : w.heap.size < w1.heap.size := by have := RG1.out.lt; exact this
      clear hs1 hs0 hsz hs hu hy hat hv hc1 hc2 hrg1 hg1 hkey hlx hin hwf hni hM hL hO hrg hB hZ hbl
      go_wp2_with (at_builtin; refine Hid.out ?_)
      refine Lib.hid ?_
      refine wpOw1 _ hndOK rfl (.tmp 18) (.tmp 20) rfl (w.heap.size + 1) (by simp; omega) (.slice A L.length c) (L.map hd) (by simp [go_sem]) (HO1.out.alloc _) (hd i) w1.heap.size 1 rfl (new_cells _ _ _) (by rw [List.length_map]; omega) ?_
      rw [List.length_map]
      intro A8 c8 w8 hown8 hg8
      have HO8 := Lib.hid hown8
      have HB8 := Lib.hid ((bal HB1.out).grown hg8 (by simp; omega) (fun k hk => by have := (HO1.out.lt k hk).1; omega))
      have RG8 := Lib.hid ((RG1.out.alloc (.cells #[.int .u64 (hd i : Nat)] 35)).kept hg8 (fun e => by have := (HO1.out.lt b e.symm).1; have := HB0.out; omega) (fun e => by have := (HO1.out.lt _ e.symm).1; omega))
      clear hown8 hg8
      go_wp2_with fail
      go_roundw
      case rel => exact ⟨_, cnt1, L ++ [i], A8, c8, by rw [List.length_append]; rfl, RG8, HM, HL, Lib.hid (by rw [List.length_append, List.map_append]; exact HO8.out), Lib.hid (fun q => by simp at q), HB8⟩
      case measure => rw [RG8.out.left_eq, HC.out]; omega

set_option maxHeartbeats 4000000 in
set_option maxRecDepth 100000 in
theorem set_any (A : AF) (G : Ar) (rs : List Rt) (Av : Option Addr) (cv : Nat) (w : World) (hA : ArM w A G) (hs : Sl rtE w (.slice Av rs.length cv) rs) (hr : ∀ r ∈ rs, ∃ T, RV G r T) (hl : rs.length ≤ 100) (hc : ∀ x, (∃ r ∈ rs, RtR G r x) ↔ x < G.length) :
    Calls Tryz.prog 9 #[.pointer (some ⟨A.ba, 0, none⟩), .slice Av rs.length cv] w fun e w' => ∃ B c, e = .returned (.tuple #[.slice B G.length c, .int .i64 0]) ∧ Ow hndE w' w.heap.size 35 (.slice B G.length c) ((List.range G.length).map hd) ∧ Below w.heap.size w w' := by
  have C1 := Lib.hid (counts_any A G rs Av cv w hA hs hr hl)
  have C2 := Lib.hid (fun b m W (p : CtM W b m (fun x => x < G.length)) => atLeast_any b m G.length W p hA.le)
  have HC := Lib.hid hc
  clear hA hs hr hc
  go_enter Tryz.func9, Tryz.ntmps9
  go_wp2_with fail
  refine C1.out.mono ?_
  rintro e w1 ⟨b, rfl, hb, hct, hb1⟩
  have C3 := Lib.hid (C2.out b 100000 w1 (hct.congr HC.out))
  have HB1 := Lib.hid hb1
  clear hct hb1 C1 C2
  go_wp2_with fail
  refine C3.out.mono ?_
  rintro e w2 ⟨B, c, rfl, ho, hb2⟩
  have HO := Lib.hid ho; have HB2 := Lib.hid hb2
  clear ho hb2 C3
  go_wp2_with fail
  go_ret2
  exact ⟨B, c, rfl, HO.out.base HB1.out.size, bcall HB1.out HB2.out⟩

set_option maxHeartbeats 4000000 in
set_option maxRecDepth 100000 in
theorem leaked_any (A : AF) (G : Ar) (rs : List Rt) (Av : Option Addr) (cv : Nat) (w : World) (hA : ArM w A G) (hs : Sl rtE w (.slice Av rs.length cv) rs) (hr : ∀ r ∈ rs, ∃ T, RV G r T) (hl : rs.length ≤ 100) (hc : ∀ x, (∃ r ∈ rs, RtR G r x) ↔ x < G.length) :
    Calls Tryz.prog 10 #[.pointer (some ⟨A.ba, 0, none⟩), .slice Av rs.length cv, .slice none 0 0] w fun e w' => ∃ B c, e = .returned (.tuple #[.slice B 0 c, .int .i64 0]) ∧ Below w.heap.size w w' := by
  have C1 := Lib.hid (parts_reach A G rs Av cv w hA hs hr hl hc)
  have C2 := Lib.hid (fun b m W (p : CtM W b m (fun x => x < 0)) => atLeast_any b m 0 W p (by omega))
  clear hA hs hr hc
  go_enter Tryz.func10, Tryz.ntmps10
  go_wp2_with fail
  refine C1.out.mono ?_
  rintro e w1 ⟨k, b, rfl, hct, hb1⟩
  have C3 := Lib.hid (C2.out b 1000 w1 hct)
  have HB1 := Lib.hid hb1
  clear hct hb1 C1 C2
  go_wp2_with fail
  refine C3.out.mono ?_
  rintro e w2 ⟨B, c, rfl, -, hb2⟩
  have HB2 := Lib.hid hb2
  clear hb2 C3
  go_wp2_with fail
  go_ret2
  exact ⟨B, c, rfl, bcall HB1.out HB2.out⟩

end Go.Proofs.YtclmjnobacepjaaGreat
