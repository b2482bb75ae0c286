/- quartoref03.Piece, Check, Sizes, Lengths, Same and the laws' own: what they return. Condition: the pieces read as values of their type. -/
import Derived.Test.YtibmnkdeepmabaaDelta1
import Derived.Test.YtibmnkdeepmabaaAppend
namespace Go.Proofs.Ytibmnkdeepmabaa
open Go.RowKit

set_option maxHeartbeats 1000000 in
theorem refPiece_any (p : Pc) (w : World) :
    Calls Try.prog 78 #[p.v] w fun e w' => e = .returned (.bool p.valid) ∧ Below w.heap.size w w' := by
  obtain ⟨k, n, t⟩ := p
  unfold Pc.v
  by_cases h2 : (k == 2) = true
  · have h1 : (k == 1) = false := by simp at h2 ⊢; omega
    have h3 : (k == 3) = false := by simp at h2 ⊢; omega
    go_enter Try.func78, Try.ntmps78
    go_wp2
    all_goals go_ret
    all_goals refine ⟨ret_bool ?_, (Below.refl _ _).alloc (Nat.le_refl _) _⟩
    all_goals first | (simp [Pc.valid, *]; done) | (simp [Pc.valid, *]; omega)
  have h2' : (k == 2) = false := by simpa using h2
  clear h2
  by_cases h1 : (k == 1) = true
  · go_enter Try.func78, Try.ntmps78
    go_wp2
    all_goals go_ret
    all_goals refine ⟨ret_bool ?_, (Below.refl _ _).alloc (Nat.le_refl _) _⟩
    all_goals first | (simp [Pc.valid, *]; done) | (simp [Pc.valid, *]; omega)
  have h1' : (k == 1) = false := by simpa using h1
  clear h1
  by_cases h3 : (k == 3) = true
  · go_enter Try.func78, Try.ntmps78
    go_wp2
    all_goals go_ret
    all_goals refine ⟨ret_bool ?_, (Below.refl _ _).alloc (Nat.le_refl _) _⟩
    all_goals first | (simp [Pc.valid, *]; done) | (simp [Pc.valid, *]; omega)
  have h3' : (k == 3) = false := by simpa using h3
  clear h3
  go_enter Try.func78, Try.ntmps78
  go_wp2
  all_goals go_ret
  all_goals refine ⟨ret_bool ?_, (Below.refl _ _).alloc (Nat.le_refl _) _⟩
  all_goals first | (simp [Pc.valid, *]; done) | (simp [Pc.valid, *]; omega)

/-- the three kinds of valid pieces -/
theorem Pc.valid_cases {p : Pc} (h : p.valid = true) : (p.k = 1 ∧ 1 ≤ p.n ∧ p.t = []) ∨ (p.k = 3 ∧ 1 ≤ p.n ∧ p.t = []) ∨ (p.k = 2 ∧ p.n = 0 ∧ p.t ≠ []) := by
  unfold Pc.valid at h
  split at h
  · rename_i h1; simp at h h1; exact .inl ⟨h1, h⟩
  · split at h
    · rename_i h3; simp at h h3; exact .inr (.inl ⟨h3, h⟩)
    · split at h
      · rename_i h3; simp at h h3; exact .inr (.inr ⟨h3, h⟩)
      · cases h

set_option maxHeartbeats 2000000 in
theorem refCheck_any (v : Value) (l : List Pc) (w : World) (h : Sl pcE w v l) (hd : ∀ p, p ∈ l → p.wf) :
    Calls Try.prog 58 #[v] w fun e w' => e = .returned (.int .i64 (lens l).2.2) ∧ Below w.heap.size w w' := by
  by_cases hlen : 4096 < l.length
  · obtain ⟨A, cap, rfl, h2, h3, h4⟩ := h
    clear h4
    unfold maxLen at h3
    have hq : (lens l).2.2 = 5 := by simp [lens, hlen]
    have Hq := Lib.hid hq; clear hq
    have hlen' : (4096 : Int) < (l.length : Int) := by omega
    go_enter Try.func58, Try.ntmps58
    go_wp2
    go_ret
    exact ⟨by rw [Hq.out]; rfl, Below.refl _ _⟩
  obtain ⟨A, cap, hv, h2, h3, -⟩ := id h
  have hq : lens l = lensFrom 0 0 l := by simp [lens, hlen]
  have Hq := Lib.hid hq; clear hq
  have hle : ¬ (4096 : Int) < (l.length : Int) := by omega
  have Hh := Lib.hid h; clear h
  subst hv
  unfold maxLen at h3
  go_enter Try.func58, Try.ntmps58
  go_wp2_with fail
  go_loopw [3, 4, 5] (fun a b i w1 => ∃ (k : Nat) (x y : Int), k ≤ l.length ∧ i = .int .i64 k ∧ a = .int .i64 x ∧ b = .int .i64 y ∧ Hid (lensFrom 0 0 l = lensFrom x y (l.drop k)) ∧ 0 ≤ x ∧ x ≤ 1048576 ∧ 0 ≤ y ∧ y ≤ 1048576 ∧ Below w.heap.size w w1) (fun _ _ i _ => l.length - (intOf i).toNat)
  case atStart => exact ⟨0, 0, 0, by omega, rfl, rfl, rfl, rfl, by omega, by omega, by omega, by omega, Below.refl _ _⟩
  case round =>
    obtain ⟨k, x, y, hk, rfl, rfl, rfl, hH, hx, hx2, hy, hy2, hbel⟩ := hrel
    by_cases hlt : k < l.length
    · have hdk : l.drop k = l[k] :: l.drop (k+1) := List.drop_eq_getElem_cons hlt
      obtain ⟨d1, d2, d3, d4, d5⟩ := hd l[k] (List.getElem_mem hlt)
      obtain ⟨b, off, cap', hv, hb, c0, c1, c2⟩ := (Hh.out.ext hbel).pc hlt
      obtain ⟨rfl, rfl⟩ : A = some ⟨b, off, none⟩ ∧ cap = cap' := by injection hv with e1 e2 e3; exact ⟨e1, e3⟩
      clear hv hd
      generalize l[k] = p at *
      have Hdk := Lib.hid hdk; clear hdk
      by_cases hval : p.valid = true
      · have Hval := Lib.hid hval
        have hc := Pc.valid_cases hval
        have hfin : ∀ w1, Below (wr.alloc (.cells #[.int .u8 p.k, .int .i64 p.n, .string ⟨p.t.toArray⟩] 53)).heap.size (wr.alloc (.cells #[.int .u8 p.k, .int .i64 p.n, .string ⟨p.t.toArray⟩] 53)) w1 → Below w.heap.size w w1 :=
          fun w1 hb1 => hbel.trans (((Below.refl _ _).alloc hbel.size _).trans (hb1.mono (by have := hbel.size; simp; omega)))
        have Hfin := Lib.hid hfin; clear hfin
        have hstep := lensFrom_step x y p (l.drop (k+1)) hval
        have hlong := lensFrom_long x y p (l.drop (k+1)) hval
        have Hstep := Lib.hid hstep; clear hstep
        have Hlong := Lib.hid hlong; clear hlong
        rcases hc with ⟨e1, e2, e3⟩ | ⟨e1, e2, e3⟩ | ⟨e1, e2, e3⟩
        · have k1 : (p.k == 1) = true := by simp [e1]
          have k2 : (p.k == 2) = false := by simp [e1]
          have k2' : (p.k != 2) = true := by simp [e1]
          have hinn : p.inn = p.n := by simp [Pc.inn, e1]
          have hout : p.out = p.n := by simp [Pc.out, e1]
          have hinn2 : 0 ≤ p.inn ∧ 0 ≤ p.out := Pc.sz_of_valid hval
          have Hinn := Lib.hid hinn; clear hinn
          have Hout := Lib.hid hout; clear hout
          have Hinn2 := Lib.hid hinn2; clear hinn2
          have t0 : p.t.length ≤ 0 := by simp [e3]
          clear e1 e3
          go_wp2_with ((go_at_call 78; refine (refPiece_any p _).mono ?_; rintro e w1 ⟨rfl, hb1⟩; obtain ⟨hc1, hf1⟩ := bcell hb1))
          all_goals first
            | (go_ret
               refine ⟨?_, Hfin.out w1 hb1⟩
               rw [Hq.out, hH.out, Hdk.out, Hlong.out (by have := Hinn.out; have := Hout.out; omega)]
               rfl)
            | (go_roundw
               case rel =>
                 refine ⟨k + 1, x + p.n, y + p.n + p.t.length, by omega, by go_num, rfl, rfl, ?_, by omega, by omega, by omega, by omega, Hfin.out w1 hb1⟩
                 refine Lib.hid ?_
                 have h5 := Hstep.out (by have := Hinn.out; omega) (by have := Hout.out; omega)
                 rw [hH.out, Hdk.out, h5, Hinn.out, Hout.out]
                 congr 1 <;> omega
               case measure => simp [intOf]; omega)
        · have k1 : (p.k == 1) = false := by simp [e1]
          have k2 : (p.k == 2) = false := by simp [e1]
          have k2' : (p.k != 2) = true := by simp [e1]
          have hinn : p.inn = p.n := by simp [Pc.inn, e1]
          have hout : p.out = 0 := by simp [Pc.out, e1]
          have hinn2 : 0 ≤ p.inn ∧ 0 ≤ p.out := Pc.sz_of_valid hval
          have Hinn := Lib.hid hinn; clear hinn
          have Hout := Lib.hid hout; clear hout
          have Hinn2 := Lib.hid hinn2; clear hinn2
          have t0 : p.t.length ≤ 0 := by simp [e3]
          clear e1 e3
          go_wp2_with ((go_at_call 78; refine (refPiece_any p _).mono ?_; rintro e w1 ⟨rfl, hb1⟩; obtain ⟨hc1, hf1⟩ := bcell hb1))
          all_goals first
            | (go_ret
               refine ⟨?_, Hfin.out w1 hb1⟩
               rw [Hq.out, hH.out, Hdk.out, Hlong.out (by have := Hinn.out; have := Hout.out; omega)]
               rfl)
            | (go_roundw
               case rel =>
                 refine ⟨k + 1, x + p.n, y + p.t.length, by omega, by go_num, rfl, rfl, ?_, by omega, by omega, by omega, by omega, Hfin.out w1 hb1⟩
                 refine Lib.hid ?_
                 have h5 := Hstep.out (by have := Hinn.out; omega) (by have := Hout.out; omega)
                 rw [hH.out, Hdk.out, h5, Hinn.out, Hout.out]
                 congr 1 <;> omega
               case measure => simp [intOf]; omega)
        · have k1 : (p.k == 1) = false := by simp [e1]
          have k2 : (p.k == 2) = true := by simp [e1]
          have k2' : (p.k != 2) = false := by simp [e1]
          have hinn : p.inn = 0 := by simp [Pc.inn, e1]
          have hout : p.out = p.t.length := by simp [Pc.out, e1]
          have hinn2 : 0 ≤ p.inn ∧ 0 ≤ p.out := Pc.sz_of_valid hval
          have hA : ¬ (1048576 : Int) - x < p.inn := by rw [hinn]; omega
          have HA := Lib.hid hA; clear hA
          have Hinn := Lib.hid hinn; clear hinn
          have Hout := Lib.hid hout; clear hout
          have Hinn2 := Lib.hid hinn2; clear hinn2
          clear e1 e2 e3
          go_wp2_with ((go_at_call 78; refine (refPiece_any p _).mono ?_; rintro e w1 ⟨rfl, hb1⟩; obtain ⟨hc1, hf1⟩ := bcell hb1))
          all_goals first
            | (go_ret
               refine ⟨?_, Hfin.out w1 hb1⟩
               rw [Hq.out, hH.out, Hdk.out, Hlong.out (by have := Hinn.out; have := Hout.out; omega)]
               rfl)
            | (go_roundw
               case rel =>
                 refine ⟨k + 1, x, y + p.t.length, by omega, by go_num, rfl, rfl, ?_, by omega, by omega, by omega, by omega, Hfin.out w1 hb1⟩
                 refine Lib.hid ?_
                 have h5 := Hstep.out HA.out (by have := Hout.out; omega)
                 rw [hH.out, Hdk.out, h5, Hinn.out, Hout.out]
                 congr 1 <;> omega
               case measure => simp [intOf]; omega)
      · have hval' : p.valid = false := by simpa using hval
        clear hval
        go_wp2_with ((go_at_call 78; refine (refPiece_any p _).mono ?_; rintro e w1 ⟨rfl, hb1⟩; obtain ⟨hc1, hf1⟩ := bcell hb1))
        go_ret
        have e := lensFrom_bad x y p (l.drop (k+1)) hval'
        refine ⟨?_, ?_⟩
        · rw [Hq.out, hH.out, Hdk.out, e]; rfl
        · exact hbel.trans (((Below.refl _ _).alloc hbel.size _).trans (hb1.mono (by have := hbel.size; simp; omega)))
    · have hk' : l.drop k = [] := List.drop_eq_nil_of_le (by omega)
      have Hk := Lib.hid hk'; clear hk'
      go_wp2
      go_ret
      refine ⟨?_, hbel⟩
      rw [Hq.out, hH.out, Hk.out]
      rfl

/-- the sums of Sizes -/
def addN (a : Int) (p : Pc) : Int := a + p.n
def addO (a : Int) (p : Pc) : Int := if p.k = 1 then a + p.t.length + p.n else a + p.t.length
def sizesS (l : List Pc) : Int × Int := (l.foldl addN 0, l.foldl addO 0)

theorem sizesS_snoc (l : List Pc) (p : Pc) : sizesS (l ++ [p]) = (addN (sizesS l).1 p, addO (sizesS l).2 p) := by
  simp [sizesS]

/-- valid pieces that pass Check have these sums -/
theorem lensFrom_ok : ∀ (l : List Pc) (a b : Int), (lensFrom a b l).2.2 = 0 → a ≤ 1048576 → b ≤ 1048576 →
    lensFrom a b l = (l.foldl addN a, l.foldl addO b, 0) ∧
    (∀ p ∈ l, p.valid = true ∧ p.inn ≤ 1048576 - a ∧ p.out ≤ 1048576 - b) ∧ (lensFrom a b l).1 ≤ 1048576 ∧ (lensFrom a b l).2.1 ≤ 1048576 ∧ a ≤ (lensFrom a b l).1 ∧ b ≤ (lensFrom a b l).2.1
  | [], a, b, _, ha, hb => ⟨rfl, by simp, ha, hb, Int.le_refl _, Int.le_refl _⟩
  | p :: r, a, b, h, ha, hb => by
    by_cases hv : p.valid = true
    · by_cases hl : 1048576 - a < p.inn ∨ 1048576 - b < p.out
      · rw [lensFrom_long a b p r hv hl] at h; cases h
      · have e := lensFrom_step a b p r hv (by omega) (by omega)
        rw [e] at h ⊢
        obtain ⟨i1, i2⟩ := Pc.sz_of_valid hv
        obtain ⟨h1, h2, h3, h4, h5, h6⟩ := lensFrom_ok r _ _ h (by omega) (by omega)
        have hinn : a + p.inn = addN a p := by
          unfold addN
          rcases Pc.valid_cases hv with ⟨x, _, _⟩ | ⟨x, _, _⟩ | ⟨x, y, _⟩
          · simp [Pc.inn, x]
          · simp [Pc.inn, x]
          · simp [Pc.inn, x, y]
        have hout : b + p.out = addO b p := by
          unfold addO
          rcases Pc.valid_cases hv with ⟨x, _, y⟩ | ⟨x, _, y⟩ | ⟨x, y, _⟩
          · simp [Pc.out, x, y]
          · simp [Pc.out, x, y]
          · simp [Pc.out, x]
        refine ⟨?_, ?_, h3, h4, by omega, by omega⟩
        · rw [h1, List.foldl_cons, List.foldl_cons, hinn, hout]
        · intro q hq
          rcases List.mem_cons.1 hq with rfl | hq
          · exact ⟨hv, by omega, by omega⟩
          · obtain ⟨j1, j2, j3⟩ := h2 q hq
            exact ⟨j1, by omega, by omega⟩
    · rw [lensFrom_bad a b p r (by simpa using hv)] at h; cases h

theorem lens_ok {l : List Pc} (h : (lens l).2.2 = 0) : l.length ≤ 4096 ∧ lens l = ((sizesS l).1, (sizesS l).2, 0) ∧ (∀ p ∈ l, p.valid = true ∧ p.inn ≤ 1048576 ∧ p.out ≤ 1048576) ∧ 0 ≤ (sizesS l).1 ∧ (sizesS l).1 ≤ 1048576 ∧ 0 ≤ (sizesS l).2 ∧ (sizesS l).2 ≤ 1048576 := by
  unfold lens at h ⊢
  split at h
  · cases h
  · rename_i hl
    obtain ⟨h1, h2, h3, h4, h5, h6⟩ := lensFrom_ok l 0 0 h (by omega) (by omega)
    rw [if_neg hl]
    rw [h1] at h3 h4 h5 h6
    exact ⟨by omega, h1, fun p hp => by have := h2 p hp; exact ⟨this.1, by omega, by omega⟩, h5, h3, h6, h4⟩

theorem lens_err {l : List Pc} (h : (lens l).2.2 ≠ 0) : lens l = (0, 0, (lens l).2.2) := by
  have key : ∀ (l : List Pc) (a b : Int), (lensFrom a b l).2.2 ≠ 0 → lensFrom a b l = (0, 0, (lensFrom a b l).2.2) := by
    intro l
    induction l with
    | nil => intro a b h; exact absurd rfl h
    | cons p r ih =>
      intro a b h
      by_cases hv : p.valid = true
      · by_cases hl : 1048576 - a < p.inn ∨ 1048576 - b < p.out
        · rw [lensFrom_long a b p r hv hl]
        · rw [lensFrom_step a b p r hv (by omega) (by omega)] at h ⊢
          exact ih _ _ h
      · rw [lensFrom_bad a b p r (by simpa using hv)]
  unfold lens at h ⊢
  split
  · rfl
  · rename_i hl
    rw [if_neg hl] at h
    exact key l 0 0 h

theorem Pc.n_of_valid {p : Pc} (h : p.valid = true) (hi : p.inn ≤ 1048576) (ho : p.out ≤ 1048576) : 0 ≤ p.n ∧ p.n ≤ 1048576 ∧ p.t.length ≤ 1048576 := by
  rcases Pc.valid_cases h with ⟨x, y, z⟩ | ⟨x, y, z⟩ | ⟨x, y, z⟩
  · simp [Pc.inn, x] at hi; simp [z]; omega
  · simp [Pc.inn, x] at hi; simp [z]; omega
  · simp [Pc.out, x] at ho; omega

end Go.Proofs.Ytibmnkdeepmabaa
