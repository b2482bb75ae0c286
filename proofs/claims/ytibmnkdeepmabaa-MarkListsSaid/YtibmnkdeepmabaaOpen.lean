/- What the arguments of a law give the walk: a slice of pieces reads as a list of pieces; the row's last step from 'Below'. -/
import Derived.Test.YtibmnkdeepmabaaRows
import Derived.Test.YtibmnkdeepmabaaBase
import Derived.ProofKit
import Derived.OpenShut
import Derived.SizedLaws
import Derived.Carry
import Derived.Deep.Slices
import Derived.Deep.Fields
namespace Go.Proofs.Ytibmnkdeepmabaa
open Go.RowKit Go.WideShapes Go.ChangeShapes Go.ChangeAt Go.ChangeMaps Go.Deep

theorem cellsPiece : Try.prog.cellsOf 53 = 3 := by kernel_rfl
theorem bytesPiece : Try.prog.bytesOf 53 = 32 := by kernel_rfl
theorem cellsU8 : Try.prog.cellsOf 5 = 1 := by kernel_rfl
theorem cellsInt : Try.prog.cellsOf 3 = 1 := by kernel_rfl
theorem cellsStr : Try.prog.cellsOf 9 = 1 := by kernel_rfl
theorem laidOut : laidOutB Try.prog = true := by kernel_rfl
theorem ownNone : ownKnob Try.prog.godebug = none := by kernel_rfl

theorem str_list (s : ByteArray) : (⟨s.data.toList.toArray⟩ : ByteArray) = s := by cases s; simp
theorem addr_zero (a : Addr) : a.add 0 = a := by unfold Addr.add; simp
theorem wf_u8 {n : Int} (h : (Lit.int .u8 n).wf = true) : 0 ≤ n ∧ n ≤ 255 := by
  simpa [Lit.wf, IntKind.min, IntKind.max, IntKind.signed, IntKind.bits] using h
theorem wf_i64 {n : Int} (h : (Lit.int .i64 n).wf = true) : -9223372036854775808 ≤ n ∧ n ≤ 9223372036854775807 := by
  simpa [Lit.wf, IntKind.min, IntKind.max, IntKind.signed, IntKind.bits] using h

section
variable {H : Type} {enc : TypeId × Value → H} {w : World} {base : Nat} {spare : Nat → Bool} {held : Bool}

set_option maxRecDepth 100000 in
/-- three cells that read as a piece -/
theorem open_piece {n : Nat} {cs : List Value} {x : DataW H × List MemPlace} (h : DataW.trod enc Try.prog w base spare held n 53 cs = some x) : ∃ p : Pc, cs = p.cells ∧ p.wf := by
  obtain ⟨xs, m, -, -, hlen, hxl, hf⟩ := DataW.trod_struct Try.underlying53 h
  rw [cellsPiece] at hlen
  match cs, hlen with
  | [c0, c1, c2], _ =>
    have h0 : DataW.trod enc Try.prog w base spare held m 5 (List.take (Try.prog.cellsOf 5) [c0, c1, c2]) = xs[0]? := hf 0 _ rfl
    have h1 : DataW.trod enc Try.prog w base spare held m 3 (List.take (Try.prog.cellsOf 3) [c1, c2]) = xs[1]? := hf 1 _ rfl
    have h2 : DataW.trod enc Try.prog w base spare held m 9 (List.take (Try.prog.cellsOf 9) [c2]) = xs[2]? := hf 2 _ rfl
    rw [cellsU8] at h0
    rw [cellsInt] at h1
    rw [cellsStr] at h2
    have l0 : xs[0]? = some (xs[0]'(by rw [hxl]; decide)) := List.getElem?_eq_getElem _
    have l1 : xs[1]? = some (xs[1]'(by rw [hxl]; decide)) := List.getElem?_eq_getElem _
    have l2 : xs[2]? = some (xs[2]'(by rw [hxl]; decide)) := List.getElem?_eq_getElem _
    obtain ⟨k, e0, -, w0⟩ := DataW.trod_int Try.underlying5 (h0.trans l0)
    obtain ⟨n, e1, -, w1⟩ := DataW.trod_int Try.underlying3 (h1.trans l1)
    obtain ⟨s, e2, -, w2⟩ := DataW.trod_string Try.underlying9 (h2.trans l2)
    simp only [List.take_succ_cons, List.take_zero, List.cons.injEq, and_true] at e0 e1 e2
    subst e0 e1 e2
    obtain ⟨a, b⟩ := wf_u8 w0
    obtain ⟨c, d⟩ := wf_i64 w1
    refine ⟨⟨k, n, s.data.toList⟩, by simp [Pc.cells], a, b, c, d, ?_⟩
    show s.data.toList.length ≤ _
    have e : s.data.toList.length = s.size := by simp only [Array.length_toList]; rfl
    unfold maxLen at w2
    omega

set_option maxRecDepth 100000 in
/-- a slice of pieces -/
theorem open_pieces {v : Value} {d : DataW H} {ps : List MemPlace} (hs : ∀ b, spare b = true) (hval : Value.okWide Try.prog w .any base 39 v) (h : DataW.Trod enc Try.prog w 0 spare held 39 v d ps) :
    ∃ l : List Pc, Sl pcE w v l ∧ (∀ p ∈ l, p.wf) ∧ ((d = .nil ∧ l = []) ∨ ∃ elems sp, d = .slice elems sp ∧ elems.length = l.length) := by
  obtain ⟨a0, len0, cap0, rfl⟩ := okWide_slice Try.underlying39 hval
  obtain ⟨fuel, hf⟩ := h
  rcases open_slice Try.underlying39 hf with ⟨hcs, hx⟩ | ⟨a, len, cap, m, n, D, Pl, hcs, hb, hl, hm, hmm, hx, hi⟩
  · simp [Value.cells] at hcs
    obtain ⟨rfl, rfl, rfl⟩ := hcs
    simp only [Prod.mk.injEq] at hx
    exact ⟨[], Sl.nil pcE w, by simp, .inl ⟨hx.1, rfl⟩⟩
  · simp [Value.cells] at hcs
    obtain ⟨rfl, rfl, rfl⟩ := hcs
    rw [cellsPiece] at hx hi
    rw [if_pos (hs _)] at hmm
    subst hmm
    simp only [Prod.mk.injEq] at hx
    have hpc : ∀ i, i < len0 → ∃ p : Pc, p.wf ∧ ∀ j u, p.cells[j]? = some u → w.cell? ((a.add (i * 3)).add j) = some u := by
      intro i hlt
      obtain ⟨cs', hc, ht⟩ := hi i (by omega)
      obtain ⟨-, hcl, hat⟩ := World.cells?_some hc
      obtain ⟨p, rfl, hp⟩ := open_piece ht
      refine ⟨p, hp, fun j u hj => ?_⟩
      have hj3 : j < 3 := by
        have := (List.getElem?_eq_some_iff.1 hj).1
        simpa [Pc.cells] using this
      rw [hat j hj3]; exact hj
    have hch : ∃ l : List Pc, l.length = len0 ∧ ∀ i p, l[i]? = some p → p.wf ∧ ∀ j u, p.cells[j]? = some u → w.cell? ((a.add (i * 3)).add j) = some u := by
      clear hx hi hl hf hval hb
      induction len0 with
      | zero => exact ⟨[], rfl, fun i p h => by simp at h⟩
      | succ k ih =>
        obtain ⟨l, hll, hlp⟩ := ih (fun i hi => hpc i (by omega))
        obtain ⟨p, hp⟩ := hpc k (by omega)
        refine ⟨l ++ [p], by simp [hll], fun i q hq => ?_⟩
        rcases Nat.lt_or_ge i l.length with hlt | hge
        · rw [List.getElem?_append_left hlt] at hq
          exact hlp i q hq
        · rw [List.getElem?_append_right hge] at hq
          have hi0 : i - l.length = 0 := by
            have := (List.getElem?_eq_some_iff.1 hq).1
            simp at this
            omega
          rw [hi0] at hq
          simp at hq
          subst hq
          have : i = k := by omega
          subst this
          exact hp
    obtain ⟨l, hll, hlp⟩ := hch
    subst hll
    refine ⟨l, ⟨some a, _, rfl, hl, hm, fun h0 => ?_⟩, fun p hp => ?_, .inr ⟨_, _, hx.1, by simp⟩⟩
    · have hp0 := (hlp 0 l[0] (List.getElem?_eq_getElem h0)).2 0 _ rfl
      rw [Nat.zero_mul, addr_zero, addr_zero] at hp0
      obtain ⟨b, off, sp⟩ := a
      cases sp with
      | some y =>
        unfold World.cell? at hp0
        split at hp0
        · simp at hp0
        · cases hp0
      | none =>
        refine ⟨b, off, rfl, ?_, fun i j x u hx' hu => ?_⟩
        · apply Classical.byContradiction
          intro hn
          unfold World.cell? at hp0
          rw [Array.getElem?_eq_none (by show w.heap.size ≤ b; omega)] at hp0
          cases hp0
        · have := (hlp i x hx').2 j u hu
          rw [add_of_add, add_flat] at this
          exact this
    · obtain ⟨i, hi', e⟩ := List.mem_iff_getElem.1 hp
      subst e
      exact (hlp i _ (List.getElem?_eq_getElem hi')).1
end

/-- an argument's reading stays, whatever is counted as spare -/
theorem trod_kept {t : TypeId} (hr : Try.prog.readableRec t = true) (hrow : t < Try.prog.types.size) {H : Type} {enc : TypeId × Value → H} {W W' : World} {sp : Nat → Bool} {v : Value} {d : DataW H} {ps : List MemPlace}
    (h : DataW.Trod enc Try.prog W 0 (fun _ => true) true t v d ps) (hb : Below W.heap.size W W') (hlt : ∀ x ∈ ps, x.block < W.heap.size) (hsp : ∀ x ∈ ps, sp x.block = true) : DataW.Trod enc Try.prog W' 0 sp true t v d ps :=
  WideElems.Trod_stays laidOut hr hrow h (fun x hx => hb.same (hlt x hx)) hsp

/-- the row's last step, for a law that returns true and changes nothing below its own blocks -/
theorem post_true {H : Type} {enc : TypeId × Value → H} {f : Func} {s : ChangeSpec} {W W' : World} {args : Array Value} {ds : List (DataW H)} {before : List MemPlace} (hvs : s.vars = [])
    (hW : DataW.Whole enc Try.prog f.params.toList s.vars false W args.toList ds [] before) (hrt : f.resultTypes = #[4])
    (hr : (s.fn H ds).results = [.lit (.bool true)]) (ha : (s.fn H ds).args = ds) (hv : (s.fn H ds).vars = [])
    (hargs : ∀ sp : Nat → Bool, (∀ p ∈ before, sp p.block = true) → DataW.TrodAll enc Try.prog W' 0 sp true f.params.toList args.toList ds before) (hb : Below W.heap.size W W') :
    s.post enc Try.prog f false true false false W args (.bool true) W' := by
  have hlt : ∀ p ∈ before, p.block < W.heap.size := fun p hp => hW.lt p hp
  have hold : ∀ p ∈ before, (fun b => decide (b < W.heap.size)) p.block = true := fun p hp => by simpa using hlt p hp
  refine ⟨ds, [], before, [], before, [], hW, ?_, ?_, ?_, World.keptBut_mono (fun p hp => ⟨hp, ?_⟩) (hb.frame (· ∈ before)), fun h => by cases h⟩
  · rw [List.append_nil, hr, hrt]
    exact trodAll_cons_mk (shut_bool Try.underlying4 _) trodAll_mk0
  · rw [List.append_nil, ha]
    exact hargs _ hold
  · rw [List.append_nil, hv, hvs]
    rfl
  · simpa using hp

end Go.Proofs.Ytibmnkdeepmabaa
