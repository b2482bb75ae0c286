/- rope.Pen: the contents of the nodes that are written. -/
import Derived.Test.YtclmjnobacepjaaGreatTPAdd2
namespace Go.Proofs.YtclmjnobacepjaaGreat
open Go.RowKit

set_option maxHeartbeats 1000000 in
set_option maxRecDepth 100000 in
theorem cont_leaf (bx : Nat) (T : List UInt8) (w : World) (h : Bk w bx #[.int .i64 0, .string ⟨T.toArray⟩, .slice none 0 0] 84) :
    Calls Tryz.prog 84 #[.pointer (some ⟨bx, 0, none⟩)] w fun e w' => e = .returned (ndV ⟨0, T, []⟩ (.slice none 0 0)) ∧ Below w.heap.size w w' := by
  obtain ⟨c0, c1, c2, -⟩ := h.three
  have hlt := h.lt
  unfold ndV
  simp only [ownT, if_true]
  clear h
  go_enter Tryz.func84, Tryz.ntmps84
  go_wp2_with fail
  refine bodyPost_ret (v := .agg #[.int .i64 0, .string ⟨T.toArray⟩, .slice none 0 0]) (by simp [results, Tryz.results84, go_sem]) rfl ⟨rfl, ?_⟩
  exact bal (Below.refl _ _)

/-- the kids as they are read from the boxes -/
theorem nd_in (h : Nat) (T : List UInt8) (ks : List Nat) (kv : Value) : ndV ⟨h + 1, T, ks⟩ kv = .agg #[.int .i64 ((h : Int) + 1), .string ⟨#[]⟩, kv] := rfl

/-- x and its kids so far -/
structure ContS (w : World) (H : Ar) (h : Nat) (ks : List Nat) (W : World) : Prop where
  below : Below w.heap.size w W
  x : ∃ Av c, Bk W (w.heap.size + 1) #[.int .i64 ((h : Int) + 1), .string ⟨#[]⟩, .slice Av ks.length c] 84 ∧ Ow kdE W w.heap.size 114 (.slice Av ks.length c) (ks.map (kdOf H))
  res : Bk W w.heap.size #[.int .i64 0, .string ⟨#[]⟩, .slice none 0 0] 84

set_option maxHeartbeats 4000000 in
set_option maxRecDepth 100000 in
theorem cont_in (bt bk h : Nat) (ap : Option Addr) (l cap : Nat) (A : Option Addr) (c B : Nat) (kbs ks : List Nat) (H : Ar) (m : Nat) (w : World) (ht : Bk w bt #[.int .u64 0, .int .i64 ((h : Int) + 1), .int .i64 0, .int .i64 0, .int .i64 0, .string ⟨#[]⟩, .slice ap l cap] 76) (hk : Bk w bk #[.slice A (List.length kbs) c] 172) (hr : Ow ptE w B 130 (.slice A kbs.length c) kbs) (hb : All2 (fun b k => k < m ∧ Bk w b (rbC H m k) 39) kbs ks) (h4 : ks.length ≤ 4) :
    Calls Tryz.prog 85 #[.pointer (some ⟨bt, 0, none⟩), .pointer (some ⟨bk, 0, none⟩)] w fun e w' => ∃ kv, (∀ T, e = .returned (ndV ⟨h + 1, T, ks⟩ kv)) ∧ Sl kdE w' kv (ks.map (kdOf H)) ∧ (∀ g, kv.ownBlock = some g → w.heap.size ≤ g) ∧ Below w.heap.size w w' := by
  have hlen := hb.len
  obtain ⟨t0, t1, t2, t3, t4, t5, t6, -⟩ := ht.seven
  obtain ⟨k0, -⟩ := hk.one
  have hlt := ht.lt
  have hlk := hk.lt
  have HR := Lib.hid hr; have HB := Lib.hid hb
  have HLEN := Lib.hid hlen
  have hkb4 : (kbs.length : Int) ≤ 4 := by omega
  have H4 := Lib.hid h4
  clear ht hk hr hb hlen h4
  go_enter Tryz.func85, Tryz.ntmps85
  go_wp2_with fail
  go_loopw [11] (fun i wr => ∃ j : Nat, j ≤ kbs.length ∧ i = .int .i64 j ∧ Hid (ContS w H h (ks.take j) wr)) (fun i _ => kbs.length - (intOf i).toNat)
  case atStart => exact ⟨0, by omega, rfl, Lib.hid ⟨bal (bal (Below.refl _ _)), ⟨none, 0, bal2' w, Ow.nil _ _ _ _⟩, (Bk.new _ _ _).alloc⟩⟩
  case round =>
    obtain ⟨j, hj, rfl, HC⟩ := hrel
    have hwr : w.heap.size + 1 < wr.heap.size := by obtain ⟨Av, c, r1, -⟩ := HC.out.x; exact r1.lt
    by_cases hlt2 : j < kbs.length
    · obtain ⟨b', off', cap', hv, hbl, hcc⟩ := (HR.out.sl).at1 (f := fun b => Value.pointer (some ⟨b, 0, none⟩)) rfl (fun _ => rfl) (k := j) hlt2
      obtain ⟨rfl, rfl⟩ : A = some ⟨b', off', none⟩ ∧ c = cap' := by injection hv with e1 e2 e3; exact ⟨e1, e3⟩
      have q0 := hcc wr HC.out.below
      obtain ⟨k, hk, hkm, hbox⟩ := HB.out.get (List.getElem?_eq_getElem hlt2)
      have hkb : Bk wr kbs[j] (rbC H m k) 39 := hbox.ext HC.out.below hbox.lt
      unfold rbC at hkb
      rw [if_pos hkm] at hkb
      obtain ⟨s0, s1, s2, s3, s4, -⟩ := hkb.five
      have hkl := hkb.lt
      obtain ⟨Av, c2, r1, r2⟩ := HC.out.x
      have hlj : ((ks.take j).map (kdOf H)).length = j := by rw [List.length_map, List.length_take]; have := HLEN.out; omega
      have hlj2 : (ks.take j).length = j := by rw [List.length_take]; have := HLEN.out; omega
      rw [hlj2] at r1 r2
      have htk : (ks.take (j + 1)).map (kdOf H) = (ks.take j).map (kdOf H) ++ [kdOf H k] := by
        rw [List.take_add_one, hk, List.map_append]; rfl
      have htl : (ks.take (j + 1)).length = j + 1 := by rw [List.length_take]; have := HLEN.out; omega
      have HRES := Lib.hid HC.out.res; have HBL := Lib.hid HC.out.below
      have HTK := Lib.hid htk; have HTL := Lib.hid htl
      have hji : (j : Int) < (kbs.length : Int) := by omega
      have hj4 : j ≤ 4 := by have := H4.out; have := HLEN.out; omega
      have hwB : w.heap.size ≤ wr.heap.size := by omega
      clear hcc hv hk hbox hkb HC htk htl hlj2
      generalize kbs[j] = kb at *
      generalize hL : (ks.take j).map (kdOf H) = L at *
      clear hL
      subst hlj
      obtain ⟨p0, p1, p2, pf0, pf1, pf2⟩ := r1.three
      have hnsl : ∀ (W : World), Sl kdE (W.alloc (.cells #[.int .u64 (hd k : Nat), .int .i64 (meas (txt H k)).b, .int .i64 (meas (txt H k)).r, .int .i64 (meas (txt H k)).n] 114)) (.slice (some ⟨W.heap.size, 0, none⟩) 1 1) [kdOf H k] := fun W => new_slB (E := kdE) (x := kdOf H k) (cs := [.int .u64 (hd k : Nat), .int .i64 (meas (txt H k)).b, .int .i64 (meas (txt H k)).r, .int .i64 (meas (txt H k)).n]) rfl _
      have HN := Lib.hid hnsl
      have HX := Lib.hid r1; have HON := Lib.hid r2
      have harm : ∀ w8, (wr.alloc (.cells #[.int .u64 (hd k : Nat), .int .i64 (meas (txt H k)).b, .int .i64 (meas (txt H k)).r, .int .i64 (meas (txt H k)).n] 114)).drew.grownBy w8 (Value.slice Av L.length c2).ownBlock → Bk w8 (w.heap.size + 1) #[.int .i64 ((h : Int) + 1), .string ⟨#[]⟩, .slice Av L.length c2] 84 := fun w8 hg8 =>
        HX.out.alloc.drew.grown hg8 (fun e => (Ow.alloc HON.out (.cells #[] 3)).ne_bk HX.out.alloc (by decide) _ e.symm rfl)
      have HARM := Lib.hid harm
      have hfin : ∀ A8 c8 w8, (wr.alloc (.cells #[.int .u64 (hd k : Nat), .int .i64 (meas (txt H k)).b, .int .i64 (meas (txt H k)).r, .int .i64 (meas (txt H k)).n] 114)).drew.grownBy w8 (Value.slice Av L.length c2).ownBlock → Ow kdE w8 w.heap.size 114 (.slice A8 (L.length + 1) c8) (L ++ [kdOf H k]) → ContS w H h (ks.take (L.length + 1)) (w8.setCell ⟨w.heap.size + 1, 2, none⟩ (.slice A8 (L.length + 1) c8)) := fun A8 c8 w8 hg8 ho8 => by
        have hx8 := HARM.out w8 hg8
        refine ⟨?_, ⟨A8, c8, by rw [HTL.out]; exact hx8.set 2 _, ?_⟩, ?_⟩
        · exact Below.setCell (p := ⟨w.heap.size + 1, 2, none⟩) (((bal (o := .cells #[.int .u64 (hd k : Nat), .int .i64 (meas (txt H k)).b, .int .i64 (meas (txt H k)).r, .int .i64 (meas (txt H k)).n] 114) HBL.out).drew).grown hg8 (le_drew _ hwB) (fun g hg => (HON.out.lt g hg).1)) (by show w.heap.size ≤ w.heap.size + 1; omega) _
        · rw [HTL.out, HTK.out]
          exact ho8.kept fun g hg => Below.heap_setCell _ _ _ _ (ho8.ne_bk hx8 (by decide) g hg)
        · exact (HRES.out.alloc.drew.grown hg8 (fun e => (Ow.alloc HON.out (.cells #[] 3)).ne_bk HRES.out.alloc (by decide) _ e.symm rfl)).other (by show w.heap.size ≠ w.heap.size + 1; omega)
      have FIN := Lib.hid hfin
      clear hnsl r1 r2 harm hfin HX HTK HTL HRES
      go_upto_region 5 with (fail)
      go_region_law (first
        | (refine stepOwSb _ kdOK rfl (.tmp 16) (.tmp 26) rfl w.heap.size ?_ (.slice Av L.length c2) L rfl ?_ _ [kdOf H k] rfl ?_ ?_ ?_
           · exact le_drew _ hwB
           · exact Ow.alloc HON.out _
           · exact HN.out wr
           · exact (show L.length + 1 ≤ 1000000 by omega)
           intro A8 c8 w8 hown8 hg8 _
           have HO8 := Lib.hid hown8
           have HG8 := Lib.hid hg8
           obtain ⟨z0, z1, z2, y0, y1, y2⟩ := (HARM.out w8 hg8).three
           have hlp8 := (HARM.out w8 hg8).lt
           clear hown8 hg8))
      all_goals
        go_wp2_with fail
        go_roundw
        case rel => exact ⟨L.length + 1, by omega, by go_num, Lib.hid (FIN.out _ _ _ HG8.out HO8.out)⟩
        case measure => simp [intOf]; omega
    · obtain rfl : j = kbs.length := by omega
      have hC := HC.out
      rw [HLEN.out, List.take_length] at hC
      obtain ⟨Av, c2, r1, r2⟩ := hC.x
      obtain ⟨p0, p1, p2, -⟩ := r1.three
      obtain ⟨z0, z1, z2, y0, y1, y2⟩ := hC.res.three
      have hlz := hC.res.lt
      have HR2 := Lib.hid r2; have HBL := Lib.hid hC.below
      have HRES := Lib.hid hC.res
      clear hC HC r1 r2
      go_wp2_with fail
      refine bodyPost_ret (v := .agg #[.int .i64 ((h : Int) + 1), .string ⟨#[]⟩, .slice Av ks.length c2]) (by simp [results, Tryz.results85, go_sem, z0, z1, z2]) rfl ⟨.slice Av ks.length c2, fun T => rfl, ?_, fun g hg => (HR2.out.lt g hg).1, ?_⟩
      · have hR := HR2.out
        have hb0 := HRES.out
        exact (((hR.kept fun g hg => Below.heap_setCell _ ⟨w.heap.size, 0, none⟩ (.int .i64 ((h : Int) + 1)) _ (hR.ne_bk hb0 (by decide) g hg)).kept fun g hg => Below.heap_setCell _ ⟨w.heap.size, 1, none⟩ (.string ⟨#[]⟩) _ (hR.ne_bk hb0 (by decide) g hg)).kept fun g hg => Below.heap_setCell _ ⟨w.heap.size, 2, none⟩ (.slice Av ks.length c2) _ (hR.ne_bk hb0 (by decide) g hg)).sl
      · refine bset (bset (bset HBL.out ?_) ?_) ?_ <;> simp

end Go.Proofs.YtclmjnobacepjaaGreat
