/- mark.Shift: what it returns. Condition: the marks and the pieces read as values of their types. -/
import Derived.Test.YtibmnkdeepmabaaMark4
import Derived.Test.YtibmnkdeepmabaaShift1
namespace Go.Proofs.Ytibmnkdeepmabaa
open Go.RowKit

/-- a mark moved under a delta -/
def shM (d : List Pc) (m : Mk) : Mk := ⟨m.id, posV d m.a m.g, m.g⟩
/-- the error of Shift, and what it returns -/
def shE (l : List Mk) (d : List Pc) : Int := if errL d = 0 then chkM (inL d) l else errL d
def shR (l : List Mk) (d : List Pc) : List Mk := if shE l d = 0 then l.map (shM d) else []

theorem pos_ok {d : List Pc} {l : List Mk} (he : errL d = 0) (hc : chkM (inL d) l = 0) {m : Mk} (hm : m ∈ l) (h : m.wf) : posE d m.a m.g = 0 := by
  have := ((chkM_zero _ _).1 hc).all m hm
  have hw := h.2.2.2.2
  rw [posE, if_pos he, movE, if_neg (by omega), if_neg (by omega)]

/-- the list while it is being moved -/
def shK (d : List Pc) (l : List Mk) (k : Nat) : List Mk := (l.take k).map (shM d) ++ l.drop k
theorem shK_len (d : List Pc) (l : List Mk) (k : Nat) (hk : k ≤ l.length) : (shK d l k).length = l.length := by simp [shK]; omega
theorem shK_at (d : List Pc) (l : List Mk) (k : Nat) (hk : k < l.length) (h' : k < (shK d l k).length) : (shK d l k)[k] = l[k] := by
  simp only [shK]
  rw [List.getElem_append_right (by simp; omega)]
  simp [Nat.min_eq_left (Nat.le_of_lt hk)]
theorem shK_step (d : List Pc) (l : List Mk) (k : Nat) (hk : k < l.length) : (shK d l k).set k (shM d l[k]) = shK d l (k + 1) := by
  simp only [shK]
  have hl : ((l.take k).map (shM d)).length = k := by simp; omega
  rw [List.set_append_right _ _ (by omega), hl, Nat.sub_self, List.drop_eq_getElem_cons hk, List.set_cons_zero, List.take_succ_eq_append_getElem hk, List.map_append, List.append_assoc]
  rfl

/-- the row that is being written -/
structure SH (w0 : World) (R : List Mk) (n : Nat) (b c : Nat) (W : World) : Prop where
  o : W.ownsRow w0.heap.size 32 3 (.slice (some ⟨b, 0, none⟩) n c) n (mkE.flat R)
  b : Below w0.heap.size w0 W
theorem SH.drew {w0 : World} {R : List Mk} {n b c : Nat} {W : World} (h : SH w0 R n b c W) : SH w0 R n b c W.drew := ⟨h.o, h.b.drew⟩
theorem SH.ext {w0 : World} {R : List Mk} {n b c : Nat} {W W' : World} (h : SH w0 R n b c W) (hb : Below W.heap.size W W') : SH w0 R n b c W' := ⟨own_ext h.o hb, h.b.trans (hb.mono h.b.size)⟩
theorem SH.put {w0 : World} {R : List Mk} {n b c : Nat} {W : World} (h : SH w0 R n b c W) {k : Nat} (hk : k < R.length) (x : Int) : SH w0 (R.set k ⟨R[k].id, x, R[k].g⟩) n b c (W.setCell ⟨b, k * 3 + 1, none⟩ (.int .i64 x)) :=
  ⟨by rw [flat_set1 R k hk x]; exact (h.o.stored _ _).1, h.b.setCell (p := ⟨b, _, none⟩) (h.o.lt b rfl).1 _⟩

set_option maxHeartbeats 2000000 in
set_option maxRecDepth 100000 in
theorem shift_ok (v vd : Value) (l : List Mk) (d : List Pc) (w : World) (h : Sl mkE w v l) (hd : ∀ m, m ∈ l → m.wf) (h2 : Sl pcE w vd d) (hd2 : ∀ p, p ∈ d → p.wf) (he : errL d = 0) (hc : chkM (inL d) l = 0) :
    Calls Try.prog 23 #[v, vd] w fun e w' => ∃ v', e = .returned (.tuple #[v', .int .i64 0]) ∧ w'.ownsRow w.heap.size 32 3 v' l.length (mkE.flat (l.map (shM d))) ∧ Below w.heap.size w w' := by
  have cL := fun w h => lengths_any vd d w h hd2
  rw [lensV_ok he] at cL
  have cC := fun w h => mcheck_any (inL d) v l w h hd
  rw [hc] at cC
  have hM := (chkM_zero _ _).1 hc
  have hln := hM.len
  have cK := fun w h => clone_any v l w h (by omega)
  have cP : ∀ (k : Nat) (hk : k < l.length) (w' : World), Sl pcE w' vd d → Calls Try.prog 39 #[vd, .int .i64 l[k].a, .int .u8 l[k].g] w' fun e w'' => e = .returned (.tuple #[.int .i64 (posV d l[k].a l[k].g), .int .i64 0]) ∧ Below w'.heap.size w' w'' := fun k hk w' hS => by
    have := position_any vd d l[k].a l[k].g w' hS hd2
    rw [pos_ok he hc (List.getElem_mem hk) (hd _ (List.getElem_mem hk))] at this
    exact this
  have H := Lib.hid h; have H2 := Lib.hid h2; have CL := Lib.hid cL; have CC := Lib.hid cC; have CK := Lib.hid cK; have CP := Lib.hid cP
  have hlen : l.length ≤ 64 := hln
  clear h h2 cL cC cK cP hd hd2 hc he hM hln
  obtain ⟨A, cap0, rfl, -, -, -⟩ := id H.out
  obtain ⟨AD, capd, rfl, -, -, -⟩ := id H2.out
  go_enter Try.func23, Try.ntmps23
  go_wp2_with fail
  refine (CL.out _ H2.out).mono ?_
  rintro e w1 ⟨rfl, hb⟩
  have HB := Lib.hid hb
  clear hb
  go_wp2_with fail
  refine (CC.out _ (H.out.ext HB.out)).mono ?_
  rintro e w2 ⟨rfl, hb⟩
  have HB2 := Lib.hid (HB.out.trans (hb.mono HB.out.size))
  clear hb HB
  go_wp2_with fail
  refine (CK.out _ (H.out.ext HB2.out)).mono ?_
  rintro e w3 ⟨v', rfl, hown, hb⟩
  have hown' := own_le hown HB2.out.size
  have HB3 := Lib.hid (HB2.out.trans (hb.mono HB2.out.size))
  clear hown hb HB2
  rcases Nat.eq_zero_or_pos l.length with h0 | h0
  · have hl : l = [] := List.eq_nil_of_length_eq_zero h0
    subst hl
    obtain ⟨A5, c5, rfl⟩ := own_form w3 (own_zero hown')
    have HO := Lib.hid hown'
    clear hown' CP h0 hlen
    go_wp2_with fail
    refine wp_loop_rounds 1 ?_
    rw [rounds_succ]
    go_wp2
    go_ret2
    exact ⟨_, rfl, HO.out, HB3.out⟩
  obtain ⟨b, c5, rfl, -⟩ := hown'.form h0
  have HS := Lib.hid (show SH w (shK d l 0) l.length b c5 w3 from ⟨by simpa [shK] using hown', HB3.out⟩)
  clear hown' HB3
  go_wp2_with fail
  go_loopw [8, 31] (fun v8 i wr => ∃ k : Nat, k ≤ l.length ∧ i = .int .i64 k ∧ v8 = .int .i64 0 ∧ Hid (SH w (shK d l k) l.length b c5 wr)) (fun _ i _ => l.length - (intOf i).toNat)
  case atStart => exact ⟨0, by omega, rfl, rfl, HS⟩
  case round =>
    obtain ⟨k, hk, rfl, rfl, hS⟩ := hrel
    have hsz := hS.out.b.size
    by_cases hlt : k < l.length
    · have hkl : k < (shK d l k).length := by rw [shK_len d l k hk]; exact hlt
      have hat := shK_at d l k hlt hkl
      have hn := shK_len d l k hk
      have HP := Lib.hid (show ∀ W x, SH w (shK d l k) l.length b c5 W → x = posV d l[k].a l[k].g → SH w (shK d l (k + 1)) l.length b c5 (W.setCell ⟨b, k * 3 + 1, none⟩ (.int .i64 x)) from fun W x hW hx => by
        have := hW.put hkl x
        rw [hat, hx] at this
        rwa [show (⟨l[k].id, posV d l[k].a l[k].g, l[k].g⟩ : Mk) = shM d l[k] from rfl, shK_step d l k hlt, ← hx] at this)
      have cells : ∀ W, SH w (shK d l k) l.length b c5 W → W.cell? ⟨b, k * 3 + 1, none⟩ = some (.int .i64 l[k].a) ∧ W.cell? ⟨b, k * 3 + 2, none⟩ = some (.int .u8 l[k].g) ∧ W.frozen? ⟨b, k * 3 + 1, none⟩ = false := fun W hW => by
        have ho := hW.o
        rw [← hn] at ho
        obtain ⟨b', off', cap', hv, hbl, s0, s1, s2⟩ := (Sl.of_own ho).mk3 hkl
        obtain ⟨rfl, rfl, rfl⟩ : b = b' ∧ 0 = off' ∧ c5 = cap' := by injection hv with e1 e2 e3; injection e1 with e1; injection e1 with e1 e2; exact ⟨e1, e2, e3⟩
        rw [hat, Nat.zero_add] at s1 s2
        exact ⟨s1, s2, ho.frozenAt _⟩
      have CE := Lib.hid cells
      have cP := CP.out k hlt
      have CP2 := Lib.hid cP
      have hki : (k : Int) < (l.length : Int) := by omega
      clear cells hat hn cP hkl
      generalize posV d l[k].a l[k].g = y at *
      generalize l[k] = m at *
      obtain ⟨i, a, g⟩ := m
      simp only at *
      go_upto_region 11 with (fail)
      go_cut [8] (fun v8 wc => v8 = .int .i64 0 ∧ Hid (SH w (shK d l (k + 1)) l.length b c5 wc))
      case first =>
        have HD := Lib.hid hS.out.drew
        obtain ⟨k1, k2, k3⟩ := CE.out _ HD.out
        go_region_with (first | (go_at_call 39; refine (CP2.out _ ((H2.out.ext HD.out.b))).mono ?_; rintro e w' ⟨rfl, hbq⟩; have HQ := Lib.hid (HD.out.ext hbq); obtain ⟨q1, q2, q3⟩ := CE.out _ HQ.out))
        all_goals go_wp2_with fail
        all_goals go_meet
        all_goals exact ⟨rfl, Lib.hid (HP.out _ _ HQ.out rfl)⟩
      case rest =>
        obtain ⟨rfl, hcut⟩ := hcut
        clear CE CP2 HP hS
        go_wp2_with fail
        go_roundw
        case rel => exact ⟨k + 1, by omega, by go_num, rfl, hcut⟩
        case measure => simp [intOf]; omega
    · obtain rfl : k = l.length := by omega
      go_wp2
      go_ret2
      refine ⟨_, rfl, ?_, hS.out.b⟩
      have := hS.out.o
      simpa [shK] using this


set_option maxHeartbeats 1000000 in
theorem shift_bad1 (v vd : Value) (d : List Pc) (w : World) (h2 : Sl pcE w vd d) (hd2 : ∀ p, p ∈ d → p.wf) (he : errL d ≠ 0) :
    Calls Try.prog 23 #[v, vd] w fun e w' => e = .returned (.tuple #[.slice none 0 0, .int .i64 (errL d)]) ∧ Below w.heap.size w w' := by
  have cL := fun w h => lengths_any vd d w h hd2
  have hl := lens_err he
  rw [show lensV d = .tuple #[.int .i64 0, .int .i64 0, .int .i64 (errL d)] by unfold lensV; rw [hl]; rfl] at cL
  have hb : (errL d != 0) = true := by simpa using he
  generalize errL d = E at *
  have H2 := Lib.hid h2; have CL := Lib.hid cL
  clear h2 cL hl he hd2
  go_enter Try.func23, Try.ntmps23
  go_wp2_with fail
  refine (CL.out _ H2.out).mono ?_
  rintro e w1 ⟨rfl, hb⟩
  go_wp2
  go_ret2
  exact ⟨rfl, hb⟩

set_option maxHeartbeats 1000000 in
theorem shift_bad2 (v vd : Value) (l : List Mk) (d : List Pc) (w : World) (h : Sl mkE w v l) (hd : ∀ m, m ∈ l → m.wf) (h2 : Sl pcE w vd d) (hd2 : ∀ p, p ∈ d → p.wf) (he : errL d = 0) (hc : chkM (inL d) l ≠ 0) :
    Calls Try.prog 23 #[v, vd] w fun e w' => e = .returned (.tuple #[.slice none 0 0, .int .i64 (chkM (inL d) l)]) ∧ Below w.heap.size w w' := by
  have cL := fun w h => lengths_any vd d w h hd2
  rw [lensV_ok he] at cL
  have cC := fun w h => mcheck_any (inL d) v l w h hd
  have hb : (chkM (inL d) l != 0) = true := by simpa using hc
  generalize chkM (inL d) l = E at *
  have H := Lib.hid h; have H2 := Lib.hid h2; have CL := Lib.hid cL; have CC := Lib.hid cC
  clear h h2 cL cC hd hd2 hc he
  go_enter Try.func23, Try.ntmps23
  go_wp2_with fail
  refine (CL.out _ H2.out).mono ?_
  rintro e w1 ⟨rfl, hb⟩
  have HB := Lib.hid hb
  clear hb
  go_wp2_with fail
  refine (CC.out _ (H.out.ext HB.out)).mono ?_
  rintro e w2 ⟨rfl, hb⟩
  go_wp2
  go_ret2
  exact ⟨rfl, HB.out.trans (hb.mono HB.out.size)⟩

theorem shift_any (v vd : Value) (l : List Mk) (d : List Pc) (w : World) (h : Sl mkE w v l) (hd : ∀ m, m ∈ l → m.wf) (h2 : Sl pcE w vd d) (hd2 : ∀ p, p ∈ d → p.wf) :
    Calls Try.prog 23 #[v, vd] w fun e w' => ∃ v', e = .returned (.tuple #[v', .int .i64 (shE l d)]) ∧ w'.ownsRow w.heap.size 32 3 v' (shR l d).length (mkE.flat (shR l d)) ∧ Below w.heap.size w w' := by
  by_cases he : errL d = 0
  · by_cases hc : chkM (inL d) l = 0
    · have e1 : shE l d = 0 := by rw [shE, if_pos he, hc]
      rw [shR, e1, if_pos rfl, List.length_map]
      exact shift_ok v vd l d w h hd h2 hd2 he hc
    · have e1 : shE l d = chkM (inL d) l := by rw [shE, if_pos he]
      rw [shR, e1, if_neg hc]
      refine (shift_bad2 v vd l d w h hd h2 hd2 he hc).mono ?_
      rintro e w' ⟨rfl, hb⟩
      exact ⟨_, rfl, World.ownsRow_nil _ _ _ _, hb⟩
  · have e1 : shE l d = errL d := by rw [shE, if_neg he]
    rw [shR, e1, if_neg he]
    refine (shift_bad1 v vd d w h2 hd2 he).mono ?_
    rintro e w' ⟨rfl, hb⟩
    exact ⟨_, rfl, World.ownsRow_nil _ _ _ _, hb⟩

end Go.Proofs.Ytibmnkdeepmabaa
