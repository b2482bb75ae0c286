/- quartoref03.Lengths, Normalize, quartoref04.fits, Parts, Apply, Removed, Inserted: what they return. Condition: the pieces and the string read as values of their types. -/
import Derived.Test.YtibmnkdeepmabaaApply1
namespace Go.Proofs.Ytibmnkdeepmabaa
open Go.RowKit

set_option maxHeartbeats 1000000 in
theorem refLengths_any (v : Value) (l : List Pc) (w : World) (h : Sl pcE w v l) (hd : ∀ p, p ∈ l → p.wf) :
    Calls Try.prog 40 #[v] w fun e w' => e = .returned (lensV l) ∧ Below w.heap.size w w' := by
  have hc := refCheck_any v l w h hd
  rw [show (lens l).2.2 = errL l from rfl] at hc
  by_cases h0 : errL l = 0
  · have hv : lensV l = .tuple #[.int .i64 (sizesS l).1, .int .i64 (sizesS l).2, .int .i64 0] := by
      obtain ⟨_, b, _⟩ := lens_ok h0
      simp [lensV, b]
    rw [h0] at hc
    have Hv := Lib.hid hv; have Hc := Lib.hid hc; have H0 := Lib.hid h0
    clear hv hc h0
    go_enter Try.func40, Try.ntmps40
    go_wp2_with fail
    refine (Hc.out).mono ?_
    rintro e w1 ⟨rfl, hb1⟩
    go_wp2_with fail
    refine (refSizes_any v l w1 (h.ext hb1) (formPre_of_lens H0.out)).mono ?_
    rintro e w2 ⟨rfl, hb2⟩
    go_wp2
    all_goals (first | go_ret3 | (go_quiet (fail); go_wp2; go_ret3))
    all_goals first | exact ⟨by rw [Hv.out]; rfl, hb1.trans (hb2.mono hb1.size)⟩ | exact ⟨by rw [Hv.out]; rfl, below_drewN (hb1.trans (hb2.mono hb1.size)) _⟩
  · have hv : lensV l = .tuple #[.int .i64 0, .int .i64 0, .int .i64 (errL l)] := by
      have := lens_err (l := l) h0
      unfold lensV
      rw [this]
      rfl
    have h1' : (errL l != 0) = true := by simpa using h0
    have Hv := Lib.hid hv; have Hc := Lib.hid hc
    clear hv hc h0
    go_enter Try.func40, Try.ntmps40
    go_wp2_with fail
    refine (Hc.out).mono ?_
    rintro e w1 ⟨rfl, hb1⟩
    go_wp2
    go_ret3
    exact ⟨by rw [Hv.out]; rfl, hb1⟩

/-- two values share no row -/
def apartV (v u : Value) : Prop := ∀ g, v.ownBlock = some g → u.ownBlock ≠ some g
theorem apartV.symm {v u : Value} (h : apartV v u) : apartV u v := fun g hg e => h g e hg
theorem apartV.nil (u : Value) : apartV (.slice none 0 0) u := fun _ h => by cases h
theorem own_apart {w w' : World} {B : Nat} {e : TypeId} {size n : Nat} {v u : Value} {xs : List Value} (h : w.ownsRow B e size u n xs) (hg : w.grownBy w' v.ownBlock) (ha : apartV v u) : w'.ownsRow B e size u n xs := by
  refine h.kept hg ?_
  cases hu : u.ownBlock with
  | none => exact .inl rfl
  | some g => exact .inr fun e => ha g e.symm hu
theorem apartV.grown {w : World} {B : Nat} {e : TypeId} {size n : Nat} {v v' u : Value} {xs : List Value} (h : apartV v u) (hu : w.ownsRow B e size u n xs) (hat : v'.ownBlock = v.ownBlock ∨ v'.ownBlock = some w.heap.size) : apartV v' u := fun g hg e => by
  rcases hat with k | k
  · exact h g (k ▸ hg) e
  · rw [k] at hg
    injection hg with hg
    have := (hu.lt g e).2
    omega

theorem own_bytes {w : World} {B n n' c : Nat} {A : Option Addr} {xs : List Value} {l : List UInt8} (h : w.ownsRow B 5 1 (.slice A n c) n' xs) (hn : n = l.length) (hn' : n' = l.length) (hx : xs = bc l) : w.ownsRow B 5 1 (.slice A l.length c) l.length (bc l) := by
  subst hn hn' hx
  exact h
theorem apart_len {A : Option Addr} {n n' c : Nat} {u : Value} (h : apartV (.slice A n c) u) (hn : n = n') : apartV (.slice A n' c) u := hn ▸ h
theorem apart_len2 {A : Option Addr} {n n' c : Nat} {u : Value} (h : apartV u (.slice A n c)) (hn : n = n') : apartV u (.slice A n' c) := hn ▸ h
theorem bytes_size (l : List UInt8) : (⟨l.toArray⟩ : ByteArray).size = l.length := by simp [ByteArray.size]
theorem bytes_cells (l : List UInt8) : byteCells ⟨l.toArray⟩ = bc l := rfl
theorem bc_append (a b : List UInt8) : bc (a ++ b) = bc a ++ bc b := Lib.byteCells_append a b

theorem refStep {s : List UInt8} {st : PSt} {pk : Int} {q : Nat} {t : List UInt8} {m : Nat} (hv : (⟨pk, (q : Int), t⟩ : Pc).valid = true) (hs : st.s = s.drop m) :
    (pk = 1 → (partStep st ⟨pk, q, t⟩).out = st.out ++ t ++ ((s.take (m + q)).drop m) ∧ (partStep st ⟨pk, q, t⟩).gone = st.gone) ∧ (pk ≠ 1 → (partStep st ⟨pk, q, t⟩).out = st.out ++ t ∧ (partStep st ⟨pk, q, t⟩).gone = st.gone ++ ((s.take (m + q)).drop m)) := by
  have e : (s.take (m + q)).drop m = (s.drop m).take q := by rw [List.drop_take]; congr 1; omega
  rw [e]
  unfold partStep
  rcases Pc.valid_cases hv with ⟨x, _, z⟩ | ⟨x, _, z⟩ | ⟨x, y, z⟩
  · dsimp only at x z ⊢
    subst z
    exact ⟨fun _ => by simp [x, hs], fun h => absurd x h⟩
  · dsimp only at x z ⊢
    subst z
    exact ⟨fun h => by omega, fun _ => by simp [x, hs]⟩
  · dsimp only at x y ⊢
    have hq : q = 0 := by omega
    subst hq
    exact ⟨fun h => by omega, fun _ => by simp [x]⟩

end Go.Proofs.Ytibmnkdeepmabaa
