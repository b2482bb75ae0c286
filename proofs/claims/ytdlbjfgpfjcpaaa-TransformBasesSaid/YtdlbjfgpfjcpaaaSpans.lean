/- transform.spans: where a delta inserts, and what it removes. Condition: valid pieces of moderate size. -/
import Derived.Test.YtdlbjfgpfjcpaaaTr1
import Derived.Test.YtdlbjfgpfjcpaaaPlainT1
import Derived.Maps.RangeWalk
import Derived.Maps.Views
namespace Go.Proofs.Ytdlbjfgpfjcpaaa
open Go.RowKit Go.Maps

/-- a set of numbers as a map reads -/
def setD (S : List Int) : DataW Unit := S.foldl (fun D k => D.put (.int .i64 k) (.lit (.bool true))) (.map [])
theorem setD_snoc (S : List Int) (k : Int) : setD (S ++ [k]) = (setD S).put (.int .i64 k) (.lit (.bool true)) := by simp [setD]
theorem rev_ind {P : List Int → Prop} (h0 : P []) (h1 : ∀ S k, P S → P (S ++ [k])) (S : List Int) : P S := by
  have : ∀ n (S : List Int), S.length = n → P S := by
    intro n
    induction n with
    | zero => intro S hS; rw [List.eq_nil_of_length_eq_zero hS]; exact h0
    | succ n ih =>
      intro S hS
      have hne : S ≠ [] := by intro hh; rw [hh] at hS; simp at hS
      rw [← List.dropLast_concat_getLast hne]
      exact h1 _ _ (ih _ (by rw [List.length_dropLast, hS]; rfl))
  exact this _ S rfl
theorem setD_ok (S : List Int) : IsMap (setD S) ∧ ∀ k : Int, has (setD S) (.int .i64 k) = decide (k ∈ S) ∧ (setD S).atKey (.int .i64 k) (.lit (.bool false)) = .lit (.bool (decide (k ∈ S))) := by
  induction S using rev_ind with
  | h0 => exact ⟨isMap_empty, fun k => ⟨rfl, rfl⟩⟩
  | h1 S k' ih =>
    obtain ⟨m, h⟩ := ih
    rw [setD_snoc]
    refine ⟨m.put _ _, fun k => ?_⟩
    by_cases e : k = k'
    · subst e
      have hkl : WideAt.IsKeyLit (.int IntKind.i64 k) := trivial
      rw [has_put_same m hkl, atKey_put_same m hkl]
      simp
    · have hne : (Lit.int IntKind.i64 k) ≠ .int .i64 k' := fun hh => e (by injection hh)
      rw [has_put_other hne, atKey_put_other hne, (h k).1, (h k).2]
      simp [e]
theorem law3 : Keyed Try.prog 3 := int_keyed Try.underlying3
def rgE : Enc (Int × Int) := ⟨2, by decide, fun r => [.int .i64 r.1, .int .i64 r.2], fun _ => rfl, by intro x u h; simp at h; rcases h with rfl | rfl <;> rfl⟩
theorem infoRg : (Try.prog.info? 100).map (fun i => (i.zero, i.size, i.bytes)) = some (some (.agg #[.int .i64 0, .int .i64 0]), 2, 16) := by kernel_rfl
theorem ats_snoc (l : List Pc) (p : Pc) : ∀ a : Int, atsF a (l ++ [p]) = atsF a l ++ (if p.k = 2 then [a + inL l] else []) := by
  induction l with
  | nil => intro a; simp [atsF, inL]
  | cons q l ih =>
    intro a
    rw [List.cons_append, atsF, ih, atsF, List.append_assoc]
    simp only [inL, Int.add_assoc]
theorem gone_snoc (l : List Pc) (p : Pc) : ∀ a : Int, goneF a (l ++ [p]) = goneF a l ++ (if p.k = 3 then [(a + inL l, a + inL l + p.n)] else []) := by
  induction l with
  | nil => intro a; simp [goneF, inL]
  | cons q l ih =>
    intro a
    rw [List.cons_append, goneF, ih, goneF, List.append_assoc]
    simp only [inL, Int.add_assoc]
theorem ats_len (l : List Pc) : ∀ a : Int, (atsF a l).length ≤ l.length := by
  induction l with
  | nil => intro a; simp [atsF]
  | cons q l ih =>
    intro a
    have := ih (a + q.n)
    rw [atsF, List.length_append, List.length_cons]
    split <;> simp <;> omega
theorem gone_len (l : List Pc) : ∀ a : Int, (goneF a l).length ≤ l.length := by
  induction l with
  | nil => intro a; simp [goneF]
  | cons q l ih =>
    intro a
    have := ih (a + q.n)
    rw [goneF, List.length_append, List.length_cons]
    split <;> simp <;> omega
theorem inL_le {l : List Pc} (h : SmP l) : 0 ≤ inL l ∧ inL l ≤ (l.length * 1048576 : Nat) := by
  induction l with
  | nil => simp [inL]
  | cons p r ih =>
    obtain ⟨⟨a, b, c⟩, d⟩ := SmP.cons.1 h
    have := Val.n a
    have := ih d
    simp only [inL, List.length_cons, Nat.succ_mul]
    omega

set_option maxHeartbeats 8000000 in
set_option maxRecDepth 100000 in
theorem spans_any (v : Value) (l : List Pc) (w : World) (h : Sl pcE w v l) (hv : SmP l) (hl : l.length ≤ 4096) :
    Calls Try.prog 89 #[v] w fun e w' => ∃ b v' n, e = .returned (.tuple #[.map (some b), v']) ∧ w'.ownsMap Try.prog 3 (plainElem Try.prog 4) b n (setD (atsF 0 l)) ∧ w'.ownsRow w.heap.size 100 2 v' (goneF 0 l).length (rgE.flat (goneF 0 l)) ∧ w.heap.size ≤ b ∧ n ≤ 4096 ∧ Below w.heap.size w w' := by
  obtain ⟨i0, hi, hz0, hz1, hz2⟩ := info_parts infoRg
  have hmm := @run_makeMap Try.prog
  obtain ⟨A, cap, rfl, h2, h3, -⟩ := id h
  have H := Lib.hid h; have HV := Lib.hid hv
  have hM := Lib.hid (World.ownsMap_made (H := Unit) w Try.prog 3 (plainElem Try.prog 4))
  clear h hv
  unfold maxLen at h3
  go_enter Try.func89, Try.ntmps89
  go_wp2_with fail
  go_loopw [3, 4, 10] (fun vo a i wr => ∃ (k q : Nat) (A5 : Option Addr) (c5 : Nat), k ≤ l.length ∧ i = .int .i64 k ∧ a = .int .i64 q ∧ vo = .slice A5 (goneF 0 (l.take k)).length c5 ∧ Hid (inL (l.take k) = q) ∧
      Hid (wr.ownsMap Try.prog 3 (plainElem Try.prog 4) w.heap.size k (setD (atsF 0 (l.take k)))) ∧ Hid (wr.ownsRow (w.heap.size + 1) 100 2 (.slice A5 (goneF 0 (l.take k)).length c5) (goneF 0 (l.take k)).length (rgE.flat (goneF 0 (l.take k)))) ∧ Hid (Below w.heap.size w wr) ∧ w.heap.size + 1 ≤ wr.heap.size) (fun _ _ i _ => l.length - (intOf i).toNat)
  case atStart => exact ⟨0, 0, none, 0, by omega, rfl, rfl, rfl, Lib.hid rfl, hM, Lib.hid (World.ownsRow_nil _ _ _ _), Lib.hid (bal (Below.refl _ _)), by simp⟩
  case round =>
    obtain ⟨k, q, A5, c5, hk, rfl, rfl, rfl, hq, hMp, hO, hB, hs1⟩ := hrel
    have hsz := hB.out.size
    by_cases hlt : k < l.length
    · obtain ⟨b, off, cap', hvv, hb, hcells⟩ := H.out.pcB hlt
      obtain ⟨rfl, rfl⟩ : A = some ⟨b, off, none⟩ ∧ cap = cap' := by injection hvv with e1 e2 e3; exact ⟨e1, e3⟩
      obtain ⟨c0, c1, c2⟩ := hcells _ hB.out
      have htk : l.take (k + 1) = l.take k ++ [l[k]] := List.take_succ_eq_append_getElem hlt
      obtain ⟨sv, s1, s2⟩ := HV.out l[k] (List.getElem_mem hlt)
      have hn0 := Val.n sv
      have ea := ats_snoc (l.take k) l[k] 0
      have eg := gone_snoc (l.take k) l[k] 0
      rw [← htk, Int.zero_add, hq.out] at ea eg
      have eq1 : inL (l.take (k + 1)) = q + l[k].n := by rw [htk, inL_append, hq.out]; simp [inL]
      have hlq := inL_le (fun p hp => HV.out p (List.mem_of_mem_take hp) : SmP (l.take (k + 1)))
      rw [eq1, List.length_take] at hlq
      have hgl := gone_len (l.take k) 0
      rw [List.length_take] at hgl
      have hbw : b < wr.heap.size := Nat.lt_of_lt_of_le hb hsz
      obtain ⟨m, hm⟩ := Int.eq_ofNat_of_zero_le hn0
      have hcases := Pc.valid_cases sv
      rw [hm] at c1 s1 eq1 eg hlq hcases
      have hqm : q + m ≤ 4294967296 := by
        have : min (k + 1) l.length * 1048576 ≤ 4096 * 1048576 := Nat.mul_le_mul_right _ (by omega)
        omega
      have hw1 : IntKind.i64.wrap ((q : Int) + (m : Int)) = ((q + m : Nat) : Int) := by rw [IntWalk.i64_in _ (by omega)]; omega
      have EA := Lib.hid ea; have EG := Lib.hid eg; have EQ := Lib.hid eq1
      clear hvv hcells htk sv ea eg eq1 hlq hm hn0 s2
      generalize l[k].t = pt at *
      generalize l[k].n = pn at *
      generalize hpk : l[k].k = pk at *
      clear hpk
      generalize goneF 0 (l.take k) = G at *
      generalize atsF 0 (l.take k) = S at *
      rcases hcases with ⟨e, e1, e2⟩ | ⟨e, e1, e2⟩ | ⟨e, e1, e2⟩
      · subst e
        have EG2 := Lib.hid (show goneF 0 (l.take (k + 1)) = G from by rw [EG.out]; simp)
        have EA2 := Lib.hid (show atsF 0 (l.take (k + 1)) = S from by rw [EA.out]; simp)
        clear e1 e2 EG EA
        go_wp2_with fail
        go_roundw
        case rel => exact ⟨k + 1, q + m, A5, c5, by omega, by go_num, by simp, by rw [EG2.out], Lib.hid (by rw [EQ.out]; rfl), Lib.hid (by rw [EA2.out]; exact (hMp.out.alloc _).mono (by omega)), Lib.hid (by rw [EG2.out]; exact hO.out.alloc _), Lib.hid (hB.out.alloc hsz _), by simp; omega⟩
        case measure => simp [intOf]; omega
      · subst e
        have EG2 := Lib.hid (show goneF 0 (l.take (k + 1)) = G ++ [((q : Int), ((q + m : Nat) : Int))] from by rw [EG.out]; simp)
        have EA2 := Lib.hid (show atsF 0 (l.take (k + 1)) = S from by rw [EA.out]; simp)
        clear e1 e2 EG EA
        go_wp2_with (at_builtin; refine Hid.out ?_)
        refine Lib.hid ?_
        refine wpListB_append _ rfl (.tmp 22) (.tmp 29) 97 97 rfl (w.heap.size + 1) (by simp; omega) 100 i0 _ 2 16 Try.underlying97 hi hz0 hz1 hz2 rfl (by decide) _ _ _ rfl ((hO.out.alloc _).alloc _) _ 1 _ rfl (src_one rgE Try.underlying97 (off := 0) ((q : Int), ((q + m : Nat) : Int)) _ (new_cells2 _ _ _ _)) (by unfold maxLen; omega) (by omega) ?_
        intro A8 c8 w8 hown8 hg8 _ _
        have hO8 := Lib.hid (show w8.ownsRow (w.heap.size + 1) 100 2 (.slice A8 (G ++ [((q : Int), ((q + m : Nat) : Int))]).length c8) (G ++ [((q : Int), ((q + m : Nat) : Int))]).length (rgE.flat (G ++ [((q : Int), ((q + m : Nat) : Int))])) from by rw [List.length_append, rgE.flat_append]; exact hown8)
        have hB8 := Lib.hid (((hB.out.alloc hsz _).alloc (by simp; omega) _).grown hg8 (by simp; omega) (fun g hg => by have := (hO.out.lt g hg).1; omega))
        have hM8 := Lib.hid (((hMp.out.alloc _).alloc _).kept hg8 (fun e => by have := (hO.out.lt _ e.symm).1; omega))
        have hZ8 := hg8.size
        have hf8 : w8.cell? ⟨wr.heap.size, 1, none⟩ = some (.int .i64 m) := by
          have e1 := hg8.block wr.heap.size (by simp; omega) (fun e => by have := (hO.out.lt _ e.symm).2; omega)
          rw [World.cell?_of_block (w := (wr.alloc (.cells #[.int .u8 3, .int .i64 m, .string ⟨pt.toArray⟩] 31)).alloc (.cells #[.int .i64 q, .int .i64 ((q + m : Nat) : Int)] 100)) (a := ⟨wr.heap.size, 1, none⟩) e1]
          simp
        have hl8 : wr.heap.size < w8.heap.size := by simp at hZ8; omega
        clear hown8 hg8 hO hMp hB
        simp at hZ8
        go_wp2_with fail
        go_roundw
        case rel => exact ⟨k + 1, q + m, A8, c8, by omega, by go_num, by simp, by rw [EG2.out]; simp, Lib.hid (by rw [EQ.out]; rfl), Lib.hid (by rw [EA2.out]; exact hM8.out.mono (by omega)), Lib.hid (by rw [EG2.out]; exact hO8.out), hB8, by omega⟩
        case measure => simp [intOf]; omega
      · subst e
        have hm0 : m = 0 := by omega
        subst hm0
        have EG2 := Lib.hid (show goneF 0 (l.take (k + 1)) = G from by rw [EG.out]; simp)
        have EA2 := Lib.hid (show atsF 0 (l.take (k + 1)) = S ++ [(q : Int)] from by rw [EA.out]; simp)
        clear e1 e2 EG EA
        go_wp2_with (at_mapUpdate; refine Hid.out ?_)
        refine Lib.hid ?_
        refine wpList_mapUpdate_own _ rfl _ _ _ 96 rfl 3 4 law3 Try.underlying96 _ w.heap.size k _ rfl (hMp.out.alloc _) (by unfold maxLen; omega) _ _ _ rfl rfl (keyOf_int_mk Try.underlying3 (WalkArith.wf_i64 ⟨by omega, by omega⟩)) _ [] (plainElem_bool Try.underlying4 true) ?_
        intro w8 hown8 hg8
        have hM8 := Lib.hid (show w8.ownsMap Try.prog 3 (plainElem Try.prog 4) w.heap.size (k + 1) (setD (S ++ [(q : Int)])) from by rw [setD_snoc]; exact hown8)
        have hB8 := Lib.hid ((hB.out.alloc hsz _).grown hg8 (by simp; omega) (fun j hj => by cases hj; exact Nat.le_refl _))
        have hO8 := Lib.hid ((hO.out.alloc (.cells #[.int .u8 2, .int .i64 0, .string ⟨pt.toArray⟩] 31)).kept hg8 (by
          by_cases hn : (Value.slice A5 G.length c5).ownBlock = none
          · exact .inl hn
          · refine .inr fun e => ?_
            have := (hO.out.lt _ e).1
            omega))
        have hZ8 := hg8.size
        have hf8 : w8.cell? ⟨wr.heap.size, 1, none⟩ = some (.int .i64 0) := by
          have e1 := hg8.block wr.heap.size (by simp) (fun e => by injection e with e; omega)
          rw [World.cell?_of_block (w := wr.alloc (.cells #[.int .u8 2, .int .i64 0, .string ⟨pt.toArray⟩] 31)) (a := ⟨wr.heap.size, 1, none⟩) e1]
          simp
        have hl8 : wr.heap.size < w8.heap.size := by simp at hZ8; omega
        clear hown8 hg8 hO hMp hB
        simp at hZ8
        go_wp2_with fail
        go_roundw
        case rel => exact ⟨k + 1, q, A5, c5, by omega, by go_num, by simp, by rw [EG2.out], Lib.hid (by rw [EQ.out]; simp), Lib.hid (by rw [EA2.out]; exact hM8.out), Lib.hid (by rw [EG2.out]; exact hO8.out), hB8, by omega⟩
        case measure => simp [intOf]; omega
    · have hkl : l.take k = l := List.take_of_length_le (by omega)
      have hO' := hO.out
      have hM' := hMp.out
      rw [hkl] at hO' hM'
      have HO := Lib.hid (own_base (own_zero hO') (fun g hg => by have := (hO'.lt g hg).1; omega : ∀ g, (Value.slice A5 (goneF 0 l).length c5).ownBlock = some g → w.heap.size ≤ g))
      have HM := Lib.hid hM'
      clear hO' hM' hO hMp
      rw [hkl]
      go_wp2
      go_ret2
      exact ⟨w.heap.size, _, k, rfl, HM.out, HO.out, Nat.le_refl _, by omega, hB.out⟩

end Go.Proofs.Ytdlbjfgpfjcpaaa
