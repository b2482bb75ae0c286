/- package freelist: slot, Give; arena.Free. -/
import Derived.Test.YtclmjnobacepjaaGreatTReach2
namespace Go.Proofs.YtclmjnobacepjaaGreat
open Go.RowKit

theorem FL.setY {w : World} {F : FLb} {S X Y : List Nat} (h : FL w F S X Y) (i : Nat) : FL (w.setCell ⟨F.gb, i, none⟩ (.int .u64 2)) F S X (Y.set i 2) := by
  obtain ⟨cur, h1, h2, h3⟩ := h.stack
  obtain ⟨n1, n2, n3, n4, n5, n6⟩ := h.nd
  refine ⟨h.list.other n3, ⟨cur, h1.other n5, h2, h3⟩, h.slen, h.states.other n6, h.xlen, ?_, by rw [List.length_set]; exact h.ylen, h.nd, h.swf⟩
  have := h.gens.set i (gv64 2)
  have e : (Y.map gv64).toArray.setIfInBounds i (gv64 2) = ((Y.set i 2).map gv64).toArray := by simp [List.map_set]
  rw [e] at this
  exact this
theorem FL.setX {w : World} {F : FLb} {S X Y : List Nat} (h : FL w F S X Y) (i : Nat) : FL (w.setCell ⟨F.tb, i, none⟩ (.int .u8 0)) F S (X.set i 0) Y := by
  obtain ⟨cur, h1, h2, h3⟩ := h.stack
  obtain ⟨n1, n2, n3, n4, n5, n6⟩ := h.nd
  refine ⟨h.list.other n2, ⟨cur, h1.other n4, h2, h3⟩, h.slen, ?_, by rw [List.length_set]; exact h.xlen, h.gens.other (Ne.symm n6), h.ylen, h.nd, h.swf⟩
  have := h.states.set i (sv8 0)
  have e : (X.map sv8).toArray.setIfInBounds i (sv8 0) = ((X.set i 0).map sv8).toArray := by simp [List.map_set]
  rw [e] at this
  exact this
theorem int_flat (l : List Nat) : intE.flat l = l.map iv := by rw [← ints_flat]; rfl
theorem FL.own {w : World} {F : FLb} {S X Y : List Nat} (h : FL w F S X Y) : w.ownsRow 0 3 1 (.slice (some ⟨F.sb, 0, none⟩) S.length 1000) S.length (S.map iv) := by
  obtain ⟨cur, h1, h2, h3⟩ := h.stack
  have := Bk.ow (E := intE) (l := S) h1 (Nat.zero_le F.sb) h.slen (by omega) (by rw [h2]; rfl) (by rw [int_flat]; show cur.toList.take (S.length * 1) = _; rw [Nat.mul_one]; exact h3)
  unfold Ow at this
  rw [int_flat] at this
  exact this
theorem FL.push {w w' : World} {F : FLb} {S X Y : List Nat} {s : Nat} (h : FL w F S X Y) (hs : s < 1000) (hl : S.length < 1000) (ho : w'.ownsRow 0 3 1 (.slice (some ⟨F.sb, 0, none⟩) (S.length + 1) 1000) (S.length + 1) (S.map iv ++ [iv s])) (hk : ∀ k, flT F k → k ≠ F.sb → w'.heap[k]? = w.heap[k]?) :
    FL (w'.setCell ⟨F.lb, 0, none⟩ (.slice (some ⟨F.sb, 0, none⟩) (S.length + 1) 1000)) F (S ++ [s]) X Y := by
  obtain ⟨n1, n2, n3, n4, n5, n6⟩ := h.nd
  have e1 : (S ++ [s]).length = S.length + 1 := by simp
  have h1 : Bk w' F.lb _ _ := (hk _ (.inl rfl) n1).trans h.list
  have h2 : Bk w' F.tb _ _ := (hk _ (.inr (.inr (.inl rfl))) (Ne.symm n4)).trans h.states
  have h3 : Bk w' F.gb _ _ := (hk _ (.inr (.inr (.inr rfl))) (Ne.symm n5)).trans h.gens
  refine ⟨?_, ?_, by omega, h2.other (Ne.symm n2), h.xlen, h3.other (Ne.symm n3), h.ylen, h.nd, fun x hx => ?_⟩
  · have := h1.set 0 (.slice (some ⟨F.sb, 0, none⟩) (S.length + 1) 1000)
    rw [e1]
    exact this
  · rcases ho.2 with ⟨q, -⟩ | ⟨g, cap, cur, q, -, hb, -, -, hz, ht⟩
    · cases q
    · injection q with a b c
      injection a with a
      injection a with a
      subst a; subst c
      refine ⟨cur, Bk.other hb (Ne.symm n1), by rw [hz], ?_⟩
      rw [Nat.mul_one] at ht
      rw [e1, ht, List.map_append]
      rfl
  · rcases List.mem_append.1 hx with q | q
    · exact h.swf x q
    · obtain rfl := List.mem_singleton.1 q
      exact hs

set_option maxHeartbeats 2000000 in
set_option maxRecDepth 100000 in
theorem slot_any (F : FLb) (S X Y : List Nat) (i : Nat) (w : World) (h : FL w F S X Y) (hi : i < 1000) (hX : X[i]? = some 1) (hY : Y[i]? = some 1) :
    Calls Tryz.prog 44 #[.pointer (some ⟨F.lb, 0, none⟩), .int .u64 (hd i : Nat)] w fun e w' => e = .returned (.tuple #[.int .i64 i, .bool true]) ∧ Below w.heap.size w w' := by
  obtain ⟨c0, c1, c2, c3, -⟩ := h.list.four
  have hl := h.list.lt
  have hl2 := h.states.lt
  have hl3 := h.gens.lt
  have ct : w.cell? ⟨F.tb, i, none⟩ = some (.int .u8 1) := by rw [h.states.cell, List.getElem?_toArray, List.getElem?_map, hX]; rfl
  have cg : w.cell? ⟨F.gb, i, none⟩ = some (.int .u64 1) := by rw [h.gens.cell, List.getElem?_toArray, List.getElem?_map, hY]; rfl
  have S1 := Lib.hid (hslot_any i (by omega))
  have S2 := Lib.hid (hgen_any i (by omega))
  have hii : (i : Int) < 1000 := by omega
  clear h hX hY
  go_enter Tryz.func44, Tryz.ntmps44
  go_wp2_with (first | (go_at_call 60; refine (S1.out _).mono ?_; rintro e w' ⟨rfl, rfl⟩) | (go_at_call 61; refine (S2.out _).mono ?_; rintro e w' ⟨rfl, rfl⟩))
  go_quiet (fail)
  go_wp2_with fail
  go_ret2
  exact ⟨rfl, bdrN (Below.refl _ _)⟩

set_option maxHeartbeats 4000000 in
set_option maxRecDepth 100000 in
theorem give_any (F : FLb) (S X Y : List Nat) (i : Nat) (w : World) (h : FL w F S X Y) (hi : i < 1000) (hX : X[i]? = some 1) (hY : Y[i]? = some 1) (hS : S.length < 1000) :
    Calls Tryz.prog 28 #[.pointer (some ⟨F.lb, 0, none⟩), .int .u64 (hd i : Nat)] w fun e w' => e = .returned (.tuple #[.bool false, .int .i64 0]) ∧ FL w' F (S ++ [i]) (X.set i 0) (Y.set i 2) ∧ FrT (flT F) w w' := by
  have C1 := Lib.hid (slot_any F S X Y i w h hi hX hY)
  have HF := Lib.hid h
  have HX := Lib.hid hX; have HY := Lib.hid hY
  have hii : (i : Int) < 1000 := by omega
  have hSi : (S.length : Int) < 1000 := by omega
  clear h hX hY
  go_enter Tryz.func28, Tryz.ntmps28
  go_wp2_with fail
  refine C1.out.mono ?_
  rintro e w1 ⟨rfl, hb1⟩
  have HF1 := Lib.hid (HF.out.ext hb1)
  have HR1 := Lib.hid (FrT.of_below (T := flT F) hb1)
  obtain ⟨c0, c1, c2, c3, -⟩ := HF1.out.list.four
  have hl := HF1.out.list.lt
  have hl2 := HF1.out.states.lt
  have hl3 := HF1.out.gens.lt
  have cg : w1.cell? ⟨F.gb, i, none⟩ = some (.int .u64 1) := by rw [HF1.out.gens.cell, List.getElem?_toArray, List.getElem?_map, HY.out]; rfl
  have ct : w1.cell? ⟨F.tb, i, none⟩ = some (.int .u8 1) := by rw [HF1.out.states.cell, List.getElem?_toArray, List.getElem?_map, HX.out]; rfl
  have fg := HF1.out.gens.free i
  clear hb1 C1 HF
  go_wp2_with fail
  go_quiet (fail)
  have HF2 := Lib.hid ((HF1.out.drewN nq).setY i)
  have HR2 := Lib.hid ((HR1.out.drewN nq).set (p := ⟨F.gb, i, none⟩) (.inl (.inr (.inr (.inr rfl)))) (.int .u64 2))
  clear HF1 HR1
  go_upto_region 10 with (fail)
  generalize (w1.drewN nq).setCell ⟨F.gb, i, none⟩ (.int .u64 2) = w2 at *
  clear c0 c1 c2 c3 hl hl2 hl3 cg ct fg
  obtain ⟨c0, c1, c2, c3, -⟩ := HF2.out.list.four
  have hl := HF2.out.list.lt
  have hl2 := HF2.out.states.lt
  have ct : w2.cell? ⟨F.tb, i, none⟩ = some (.int .u8 1) := by rw [HF2.out.states.cell, List.getElem?_toArray, List.getElem?_map, HX.out]; rfl
  have ft := HF2.out.states.free i
  have HF3 := Lib.hid (HF2.out.setX i)
  have HR3 := Lib.hid (HR2.out.set (p := ⟨F.tb, i, none⟩) (.inl (.inr (.inr (.inl rfl)))) (.int .u8 0))
  clear HF2 HR2
  go_upto_region 11 with (fail)
  generalize w2.setCell ⟨F.tb, i, none⟩ (.int .u8 0) = w3 at *
  clear c0 c1 c2 c3 hl hl2 ct ft
  obtain ⟨c0, c1, c2, c3, -⟩ := HF3.out.list.four
  have hl := HF3.out.list.lt
  obtain ⟨i0, hi0, -, hz1, -⟩ := info_parts infoInt
  have hsb := (HF3.out.own.lt F.sb rfl).2
  go_wp2_with (at_builtin; refine Hid.out ?_)
  refine Lib.hid ?_
  refine wpList_append_fits _ rfl (.tmp 55) (.tmp 57) 95 rfl 0 3 i0 1 Tryz.underlying95 hi0 hz1 F.sb S.length 1000 (S.map iv) rfl (World.ownsRow.alloc HF3.out.own _) ⟨w3.heap.size, 0, none⟩ 1 1 [iv i] rfl rfl (fun j u hj => ?_) (fun u hu => by simp at hu; subst hu; rfl) (by omega) ?_
  · cases j with
    | zero => cases hj; exact (Bk.new w3 #[.int .i64 i] 3).cell 0
    | succ j => simp at hj
  intro w4 hown hg
  have hz4 := hg.size
  rw [World.size_alloc] at hz4
  have hkeep : ∀ k, flT F k → k ≠ F.sb → w4.heap[k]? = w3.heap[k]? := fun k hk hn => (hg.block k (by rw [World.size_alloc]; have := HF3.out.lt hk; omega) (fun e => hn (Option.some.inj e))).trans (Below.heap_alloc w3 _ k (HF3.out.lt hk))
  have HF4 := Lib.hid (HF3.out.push hi hS hown hkeep)
  have HR4 := Lib.hid (((HR3.out.alloc (o := .cells #[.int .i64 i] 3)).grown hg (fun k hk => .inl (by obtain rfl := Option.some.inj hk; exact .inr (.inl rfl)))).set (p := ⟨F.lb, 0, none⟩) (.inl (.inl rfl)) (.slice (some ⟨F.sb, 0, none⟩) (S.length + 1) 1000))
  have hL4 : Bk w4 F.lb _ _ := (hkeep F.lb (.inl rfl) HF3.out.nd.1).trans HF3.out.list
  have c0' := hL4.four.1
  have f0' := hL4.free 0
  have hl' := hL4.lt
  clear c0 c1 c2 c3 hl hown hg HF3 HR3 hkeep hL4 hz1 hi0 hsb
  go_wp2_with fail
  go_ret2
  exact ⟨rfl, HF4.out, HR4.out⟩

/-- the arena while its nodes are freed: i of n are -/
structure FrS (w : World) (A : AF) (n i : Nat) : Prop where
  ar : Bk w A.ba #[.int .i64 1000, .pointer (some ⟨A.F.lb, 0, none⟩), .map (some A.mb), .int .i64 n, .int .i64 i, .int .i64 0] 60
  fl : ∃ S X Y, FL w A.F S X Y ∧ S.length = 1000 - n + i ∧ (∀ x ∈ X, x < 256) ∧ ∀ k, i ≤ k → k < n → X[k]? = some 1 ∧ Y[k]? = some 1
  map : ∃ f, MapIs w A.mb f (n - i) ∧ ∀ k, i ≤ k → k < n → (f (hd k : Nat)).isSome = true
  nd : A.nd
theorem ArM.frS {w : World} {A : AF} {G : Ar} (h : ArM w A G) : FrS w A G.length 0 := by
  obtain ⟨f, h1, h2⟩ := h.map
  have hle := h.le
  refine ⟨h.ar, ⟨_, _, _, h.fl, by simp [stk], fun x hx => ?_, fun k _ hk => ⟨?_, ?_⟩⟩, ⟨f, h1, fun k _ hk => ?_⟩, h.nd⟩
  · unfold stt at hx
    rcases List.mem_append.1 hx with q | q
    · have := (List.mem_replicate.1 q).2; omega
    · have := (List.mem_replicate.1 q).2; omega
  · unfold stt
    rw [List.getElem?_append_left (by rw [List.length_replicate]; exact hk), List.getElem?_replicate, if_pos hk]
  · rw [List.getElem?_replicate, if_pos (by omega)]
  · obtain ⟨v, hv, -⟩ := h2.1 k _ (List.getElem?_eq_getElem hk)
    rw [hv]; rfl

set_option maxHeartbeats 4000000 in
set_option maxRecDepth 100000 in
theorem afree_any (A : AF) (n i : Nat) (w : World) (h : FrS w A n i) (hi : i < n) (hn : n ≤ 1000) :
    Calls Tryz.prog 13 #[.pointer (some ⟨A.ba, 0, none⟩), .int .u64 (hd i : Nat)] w fun e w' => e = .returned (.int .i64 0) ∧ FrS w' A n (i + 1) ∧ FrT (arT A) w w' := by
  obtain ⟨S, X, Y, hfl, hS, hX, hXY⟩ := h.fl
  obtain ⟨f, hm, hf⟩ := h.map
  obtain ⟨x1, y1⟩ := hXY i (Nat.le_refl _) hi
  have C1 := Lib.hid (give_any A.F S X Y i w hfl (by omega) x1 y1 (by omega))
  obtain ⟨m1, m2, m3, m4, m5, m6, m7, m8, m9⟩ := h.nd
  obtain ⟨c0, c1, c2, c3, c4, c5, -⟩ := h.ar.six
  have hl := h.ar.lt
  have HA := Lib.hid h.ar; have HM := Lib.hid hm; have HF := Lib.hid hf; have HX := Lib.hid hX; have HXY := Lib.hid hXY; have HND := Lib.hid h.nd
  have hfi := Lib.hid (hf i (Nat.le_refl _) hi)
  have hii : (i : Int) < 1000 := by omega
  clear h hfl hm hf hXY x1 y1 hX
  go_enter Tryz.func13, Tryz.ntmps13
  go_wp2_with fail
  refine C1.out.mono ?_
  rintro e w1 ⟨rfl, hF1, hr1⟩
  have HF1 := Lib.hid hF1; have HR1 := Lib.hid (hr1.mono (T' := arT A) (fun k q => .inr (.inr q)))
  have nfa : ¬ flT A.F A.ba := by rintro (q | q | q | q) <;> omega
  have nfm : ¬ flT A.F A.mb := by rintro (q | q | q | q) <;> omega
  have HA1 := Lib.hid (show Bk w1 A.ba _ _ from (hr1.block _ HA.out.lt nfa).trans HA.out)
  have HM1 := Lib.hid (HM.out.keep (hr1.block _ HM.out.lt nfm))
  clear hF1 hr1 c0 c1 c2 c3 c4 c5 hl C1 HA HM nfa
  obtain ⟨c0, c1, c2, c3, c4, c5, -⟩ := HA1.out.six
  have hl := HA1.out.lt
  go_wp2_with (at_delete; refine Hid.out ?_)
  refine Lib.hid ?_
  refine wpList_mdelete _ rfl _ _ 58 rfl 84 Tryz.underlying58 A.mb (n - i) f rfl HM1.out (hd i : Nat) rfl (inH_hd (by omega)) ?_
  intro w2 hm2 hg2 hs2
  rw [hfi.out, if_pos rfl] at hm2
  have HM2 := Lib.hid hm2
  have HA2 := Lib.hid (HA1.out.grown hg2 (fun e => m1 (Option.some.inj e)))
  have HR2 := Lib.hid (HR1.out.grown hg2 (fun k hk => .inl (by obtain rfl := Option.some.inj hk; exact .inr (.inl rfl))))
  have HF2 := Lib.hid (HF1.out.keep (fun k hk => hg2.block k (HF1.out.lt hk) (fun e => nfm (by obtain rfl := Option.some.inj e; exact hk))))
  clear hm2 hg2 hs2 c0 c1 c2 c3 c4 c5 hl HA1 HM1 HF1 HR1
  obtain ⟨c0, c1, c2, c3, c4, c5, f0, f1, f2, f3, f4, f5⟩ := HA2.out.six
  have hl := HA2.out.lt
  go_frame
  go_wp2_with fail
  go_ret
  refine ⟨rfl, ⟨?_, ⟨_, _, _, HF2.out.keep (fun k hk => Below.heap_setCell _ _ _ _ (fun e => ?_)), by rw [List.length_append, hS]; rfl, fun x hx => ?_, fun k h1 h2 => ?_⟩, ⟨Go.Proofs.YtclmjnobacepjaaGreat.del f (hd i : Nat), ?_, fun k h1 h2 => ?_⟩, HND.out⟩, HR2.out.set (.inl (.inl rfl)) _⟩
  · have := HA2.out.set 4 (.int .i64 ((i : Int) + 1))
    exact this
  · have e : k = A.ba := e
    subst e
    rcases hk with q | q | q | q <;> omega
  · rcases List.mem_or_eq_of_mem_set hx with q | q
    · exact HX.out x q
    · omega
  · obtain ⟨a, b⟩ := HXY.out k (by omega) h2
    rw [List.getElem?_set_ne (by omega), List.getElem?_set_ne (by omega)]
    exact ⟨a, b⟩
  · have := HM2.out.keep (w' := w2.setCell ⟨A.ba, 4, none⟩ (.int .i64 ((i : Int) + 1))) (Below.heap_setCell _ _ _ _ (fun e => m1 (show A.mb = A.ba from e).symm))
    rw [show n - (i + 1) = n - i - 1 by omega]
    exact this
  · unfold Go.Proofs.YtclmjnobacepjaaGreat.del
    rw [if_neg (by unfold hd; omega)]
    exact HF.out k (by omega) h2

/-- the counts once all is freed -/
theorem FrS.stats {A : AF} {n : Nat} {w : World} (h : FrS w A n n) (hn : n ≤ 1000) :
    Calls Tryz.prog 14 #[.pointer (some ⟨A.ba, 0, none⟩)] w fun e w' => ∃ wd : Nat, e = .returned (.agg #[.int .i64 1000, .int .i64 1000, .int .i64 0, .int .i64 wd, .int .i64 n, .int .i64 n, .int .i64 0]) ∧ Below w.heap.size w w' := by
  obtain ⟨S, X, Y, hfl, hS, hX, -⟩ := h.fl
  obtain ⟨f, hm, -⟩ := h.map
  rw [Nat.sub_self] at hm
  have := stats_any A n n 0 0 S X Y f w h.ar hfl hm (by omega) hX
  rw [show S.length = 1000 by omega] at this
  exact this

end Go.Proofs.YtclmjnobacepjaaGreat
