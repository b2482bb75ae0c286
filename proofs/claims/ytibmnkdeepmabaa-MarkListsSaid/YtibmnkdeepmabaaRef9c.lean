/- quartoref09.Drop; Set and Drop of both, whatever the marks: what they return. Condition: the marks read as values of their types. -/
import Derived.Test.YtibmnkdeepmabaaRef9b
import Derived.Test.YtibmnkdeepmabaaMark4n
namespace Go.Proofs.Ytibmnkdeepmabaa
open Go.RowKit

def setE (l : List Mk) (m : Mk) : Int := if chkM 9223372036854775807 l ≠ 0 ∨ chkM 9223372036854775807 [m] ≠ 0 then 2 else if hasB m.id l = false ∧ l.length = 64 then 20 else 0
def setV (l : List Mk) (m : Mk) : List Mk := if setE l m = 0 then setR l m else []
def drpE (l : List Mk) (d : Int) : Int := if chkM 9223372036854775807 l ≠ 0 then 2 else if hasB d l = false then 7 else 0
def drpV (l : List Mk) (d : Int) : List Mk := if drpE l d = 0 then wo9 d l else []

theorem setE_bad {l : List Mk} {m : Mk} (h : chkM 9223372036854775807 l ≠ 0 ∨ chkM 9223372036854775807 [m] ≠ 0) : setE l m = 2 ∧ setV l m = [] := by
  have e : setE l m = 2 := by rw [setE, if_pos h]
  exact ⟨e, by rw [setV, e, if_neg (by omega)]⟩
theorem setE_full {l : List Mk} {m : Mk} (h : chkM 9223372036854775807 l = 0) (h2 : chkM 9223372036854775807 [m] = 0) (h3 : hasB m.id l = false) (h4 : l.length = 64) : setE l m = 20 ∧ setV l m = [] := by
  have e : setE l m = 20 := by rw [setE, if_neg (by rintro (q | q) <;> contradiction), if_pos ⟨h3, h4⟩]
  exact ⟨e, by rw [setV, e, if_neg (by omega)]⟩
theorem setE_ok {l : List Mk} {m : Mk} (h : chkM 9223372036854775807 l = 0) (h2 : chkM 9223372036854775807 [m] = 0) (h3 : ¬ (hasB m.id l = false ∧ l.length = 64)) : setE l m = 0 ∧ setV l m = setR l m := by
  have e : setE l m = 0 := by rw [setE, if_neg (by rintro (q | q) <;> contradiction), if_neg h3]
  exact ⟨e, by rw [setV, e, if_pos rfl]⟩

theorem set_any (v : Value) (l : List Mk) (m : Mk) (w : World) (h : Sl mkE w v l) (hd : ∀ m, m ∈ l → m.wf) (hm : m.wf) :
    Calls Try.prog 18 #[v, m.v] w fun e w' => ∃ v', e = .returned (.tuple #[v', .int .i64 (setE l m)]) ∧ w'.ownsRow w.heap.size 32 3 v' (setV l m).length (mkE.flat (setV l m)) ∧ Below w.heap.size w w' := by
  by_cases h1 : chkM 9223372036854775807 l = 0
  · by_cases h2 : chkM 9223372036854775807 [m] = 0
    · have hM := (chkM_zero _ _).1 h1
      by_cases h3 : hasB m.id l = true
      · obtain ⟨e1, e2⟩ := setE_ok h1 h2 (fun q => by rw [h3] at q; cases q.1)
        rw [e1, e2, (setR_found hM.pw h3).2, List.length_set]
        exact set_found v l m w h hd hm h1 h2 h3
      · have h3' : hasB m.id l = false := by simpa using h3
        by_cases h4 : l.length = 64
        · obtain ⟨e1, e2⟩ := setE_full h1 h2 h3' h4
          rw [e1, e2]
          refine (set_full v l m w h hd hm h1 h2 h3' h4).mono ?_
          rintro e w' ⟨rfl, hb⟩
          exact ⟨_, rfl, World.ownsRow_nil _ _ _ _, hb⟩
        · obtain ⟨e1, e2⟩ := setE_ok h1 h2 (fun q => h4 q.2)
          obtain ⟨n1, n2, -⟩ := setR_new hM.pw h3'
          have hlen : (setR l m).length = l.length + 1 := by rw [n2, List.length_append, List.length_take, List.length_cons, List.length_drop, Nat.min_eq_left n1]; omega
          rw [e1, e2, hlen, n2]
          exact set_new v l m w h hd hm h1 h2 h3' h4
    · obtain ⟨e1, e2⟩ := setE_bad (l := l) (m := m) (.inr h2)
      rw [e1, e2]
      refine (set_bad2 v l m w h hd hm h1 h2).mono ?_
      rintro e w' ⟨rfl, hb⟩
      exact ⟨_, rfl, World.ownsRow_nil _ _ _ _, hb⟩
  · obtain ⟨e1, e2⟩ := setE_bad (l := l) (m := m) (.inl h1)
    rw [e1, e2]
    refine (set_bad1 v l m w h hd h1).mono ?_
    rintro e w' ⟨rfl, hb⟩
    exact ⟨_, rfl, World.ownsRow_nil _ _ _ _, hb⟩

theorem refSet_any (v : Value) (l : List Mk) (m : Mk) (w : World) (h : Sl mkE w v l) (hd : ∀ m, m ∈ l → m.wf) (hm : m.wf) :
    Calls Try.prog 16 #[v, m.v] w fun e w' => ∃ v', e = .returned (.tuple #[v', .int .i64 (setE l m)]) ∧ w'.ownsRow w.heap.size 32 3 v' (setV l m).length (mkE.flat (setV l m)) ∧ Below w.heap.size w w' := by
  by_cases h1 : chkM 9223372036854775807 l = 0
  · by_cases h2 : chkM 9223372036854775807 [m] = 0
    · have hM := (chkM_zero _ _).1 h1
      have hln := hM.len
      by_cases h5 : hasB m.id l = false ∧ l.length = 64
      · obtain ⟨e1, e2⟩ := setE_full h1 h2 h5.1 h5.2
        obtain ⟨-, -, n3⟩ := setR_new hM.pw h5.1
        rw [e1, e2]
        refine (refSet_full v l m w h hd hm h1 h2 (by rw [n3]; omega)).mono ?_
        rintro e w' ⟨rfl, hb⟩
        exact ⟨_, rfl, World.ownsRow_nil _ _ _ _, hb⟩
      · obtain ⟨e1, e2⟩ := setE_ok h1 h2 h5
        rw [e1, e2]
        refine refSet_ok v l m w h hd hm h1 h2 ?_
        by_cases h3 : hasB m.id l = true
        · have := wo9_lt hM.pw h3; omega
        · have h3' : hasB m.id l = false := by simpa using h3
          obtain ⟨-, -, n3⟩ := setR_new hM.pw h3'
          rw [n3]
          have : ¬ l.length = 64 := fun q => h5 ⟨h3', q⟩
          omega
    · obtain ⟨e1, e2⟩ := setE_bad (l := l) (m := m) (.inr h2)
      rw [e1, e2]
      refine (refSet_bad2 v l m w h hd hm h1 h2).mono ?_
      rintro e w' ⟨rfl, hb⟩
      exact ⟨_, rfl, World.ownsRow_nil _ _ _ _, hb⟩
  · obtain ⟨e1, e2⟩ := setE_bad (l := l) (m := m) (.inl h1)
    rw [e1, e2]
    refine (refSet_bad1 v l m w h hd h1).mono ?_
    rintro e w' ⟨rfl, hb⟩
    exact ⟨_, rfl, World.ownsRow_nil _ _ _ _, hb⟩

theorem drop_any (v : Value) (l : List Mk) (d : Int) (w : World) (h : Sl mkE w v l) (hd : ∀ m, m ∈ l → m.wf) :
    Calls Try.prog 19 #[v, .int .u32 d] w fun e w' => ∃ v', e = .returned (.tuple #[v', .int .i64 (drpE l d)]) ∧ w'.ownsRow w.heap.size 32 3 v' (drpV l d).length (mkE.flat (drpV l d)) ∧ Below w.heap.size w w' := by
  by_cases h1 : chkM 9223372036854775807 l = 0
  · have hM := (chkM_zero _ _).1 h1
    by_cases h3 : hasB d l = true
    · have e : drpE l d = 0 := by rw [drpE, if_neg (fun q => q h1), if_neg (by rw [h3]; simp)]
      have hl := wo9_lt hM.pw h3
      rw [drpV, e, if_pos rfl, show (wo9 d l).length = l.length - 1 by omega]
      exact drop_hit v l d w h hd h1 h3
    · have h3' : hasB d l = false := by simpa using h3
      have e : drpE l d = 7 := by rw [drpE, if_neg (fun q => q h1), if_pos h3']
      rw [drpV, e, if_neg (by omega)]
      refine (drop_none v l d w h hd h1 h3').mono ?_
      rintro e w' ⟨rfl, hb⟩
      exact ⟨_, rfl, World.ownsRow_nil _ _ _ _, hb⟩
  · have e : drpE l d = 2 := by rw [drpE, if_pos h1]
    rw [drpV, e, if_neg (by omega)]
    refine (drop_bad v l d w h hd h1).mono ?_
    rintro e w' ⟨rfl, hb⟩
    exact ⟨_, rfl, World.ownsRow_nil _ _ _ _, hb⟩

set_option maxHeartbeats 1000000 in
set_option maxRecDepth 100000 in
theorem refDrop_any (v : Value) (l : List Mk) (d : Int) (w : World) (h : Sl mkE w v l) (hd : ∀ m, m ∈ l → m.wf) :
    Calls Try.prog 17 #[v, .int .u32 d] w fun e w' => ∃ v', e = .returned (.tuple #[v', .int .i64 (drpE l d)]) ∧ w'.ownsRow w.heap.size 32 3 v' (drpV l d).length (mkE.flat (drpV l d)) ∧ Below w.heap.size w w' := by
  have cI := fun w' hS => refIs_any v l w' hS hd
  by_cases h1 : chkM 9223372036854775807 l = 0
  · have hM := (chkM_zero _ _).1 h1
    have hln := hM.len
    rw [show (chkM 9223372036854775807 l == 0) = true by rw [h1]; rfl] at cI
    have cF := fun w' hS => refFind9_any v l d w' hS
    have cW := fun w' hS => without_any v l d w' hS (by omega)
    rw [← has_fnd hM.pw d] at cF
    by_cases h3 : hasB d l = true
    · have e : drpE l d = 0 := by rw [drpE, if_neg (fun q => q h1), if_neg (by rw [h3]; simp)]
      rw [drpV, e, if_pos rfl]
      rw [h3] at cF
      generalize fndR d l = m at *
      obtain ⟨i, a, g⟩ := m
      unfold Mk.v at cF
      simp only at cF
      have H := Lib.hid h; have CI := Lib.hid cI; have CF := Lib.hid cF; have CW := Lib.hid cW
      clear cI cF cW h hd h1 hM hln h3 e
      go_enter Try.func17, Try.ntmps17
      go_wp2_with fail
      refine (CI.out _ H.out).mono ?_
      rintro e w1 ⟨rfl, hb⟩
      have HB := Lib.hid hb
      clear hb
      go_wp2_with fail
      refine (CF.out _ (H.out.ext HB.out)).mono ?_
      rintro e w2 ⟨rfl, hb⟩
      have HB2 := Lib.hid ((HB.out.trans (hb.mono HB.out.size)).alloc (Nat.le_trans HB.out.size hb.size) (.cells #[.int .u32 i, .int .i64 a, .int .u8 g] 32))
      clear hb HB
      go_wp2_with fail
      refine (CW.out _ (H.out.ext HB2.out)).mono ?_
      rintro e w3 ⟨v', rfl, hown, hb⟩
      have hsz := HB2.out.size
      have HO := Lib.hid (own_le hown hsz); have HB3 := Lib.hid (HB2.out.trans (hb.mono hsz))
      clear hown hb
      go_wp2
      go_ret2
      exact ⟨_, rfl, HO.out, HB3.out⟩
    · have h3' : hasB d l = false := by simpa using h3
      have e : drpE l d = 7 := by rw [drpE, if_neg (fun q => q h1), if_pos h3']
      rw [drpV, e, if_neg (by omega)]
      rw [h3'] at cF
      generalize fndR d l = m at *
      obtain ⟨i, a, g⟩ := m
      unfold Mk.v at cF
      simp only at cF
      have H := Lib.hid h; have CI := Lib.hid cI; have CF := Lib.hid cF
      clear cI cF cW h hd h1 hM hln h3 h3' e
      go_enter Try.func17, Try.ntmps17
      go_wp2_with fail
      refine (CI.out _ H.out).mono ?_
      rintro e w1 ⟨rfl, hb⟩
      have HB := Lib.hid hb
      clear hb
      go_wp2_with fail
      refine (CF.out _ (H.out.ext HB.out)).mono ?_
      rintro e w2 ⟨rfl, hb⟩
      have HB2 := Lib.hid ((HB.out.trans (hb.mono HB.out.size)).alloc (Nat.le_trans HB.out.size hb.size) (.cells #[.int .u32 i, .int .i64 a, .int .u8 g] 32))
      clear hb HB
      go_wp2
      go_ret2
      exact ⟨_, rfl, World.ownsRow_nil _ _ _ _, HB2.out⟩
  · have e : drpE l d = 2 := by rw [drpE, if_pos h1]
    rw [drpV, e, if_neg (by omega)]
    rw [show (chkM 9223372036854775807 l == 0) = false by simpa using h1] at cI
    have H := Lib.hid h; have CI := Lib.hid cI
    clear cI h hd h1 e
    go_enter Try.func17, Try.ntmps17
    go_wp2_with fail
    refine (CI.out _ H.out).mono ?_
    rintro e w1 ⟨rfl, hb⟩
    go_wp2
    go_ret2
    exact ⟨_, rfl, World.ownsRow_nil _ _ _ _, hb⟩

end Go.Proofs.Ytibmnkdeepmabaa
