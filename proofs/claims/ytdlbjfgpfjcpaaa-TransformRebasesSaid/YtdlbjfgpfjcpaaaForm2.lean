/- delta.form: the walk of its loop. -/
import Derived.Test.YtdlbjfgpfjcpaaaForm
namespace Go.Proofs.Ytdlbjfgpfjcpaaa
open Go.RowKit

theorem flush_any (bO bT bG : Nat) (ro rt : Option Nat) (out : List Pc) (text : List UInt8) (gone : Int) (w : World) (h : FmS w bO bT bG ro rt out text gone) (h0 : 0 ≤ gone) (hlen : out.length ≤ 999999) :
    Calls Try.prog 101 #[.pointer (some ⟨bT, 0, none⟩), .pointer (some ⟨bO, 0, none⟩), .pointer (some ⟨bG, 0, none⟩)] w fun e w' => e = .returned (.tuple #[]) ∧
      ∃ ro' rt', FmS w' bO bT bG ro' rt' (flushed out text gone) [] 0 ∧ Fr (fsOf bO bT bG ro rt) w w' ∧ (∀ k, fsOf bO bT bG ro' rt' k → fsOf bO bT bG ro rt k ∨ w.heap.size ≤ k) := by
  by_cases ht : text = []
  · subst ht
    by_cases hg : 0 < gone
    · simpa [flushed, hg] using flushGone bO bT bG ro rt out gone w h hg (by omega)
    · obtain rfl : gone = 0 := by omega
      simpa [flushed] using flushNone bO bT bG ro rt out 0 w h (by omega)
  · by_cases hg : 0 < gone
    · simpa [flushed, hg, ht] using flushBoth bO bT bG ro rt out text gone w h ht hg hlen
    · obtain rfl : gone = 0 := by omega
      simpa [flushed, ht] using flushText bO bT bG ro rt out text 0 w h ht (by omega) (by omega)

theorem fs_write {w w' : World} {bO bT bG : Nat} {ro rt rt' : Option Nat} {out : List Pc} {text text' : List UInt8} {gone : Int} (h : FmS w bO bT bG ro rt out text gone) (hb : Bd w' bT rt' text')
    (hr : rt' = rt ∨ ∃ g, rt' = some g ∧ w.heap.size ≤ g) (hf : Fr (fun k => k = bT ∨ some k = rt) w w') :
    FmS w' bO bT bG ro rt' out text' gone ∧ Fr (fsOf bO bT bG ro rt) w w' ∧ ∀ k, fsOf bO bT bG ro rt' k → fsOf bO bT bG ro rt k ∨ w.heap.size ≤ k := by
  obtain ⟨⟨v, h1, h2, h3⟩, h4, h5⟩ := h
  obtain ⟨cB, hB⟩ := h4.blk
  have hrt : ∀ k, some k = rt → k ≠ bO ∧ k ≠ bG ∧ some k ≠ v.ownBlock := fun k hk => by
    obtain ⟨cur, hc⟩ := h4.row_block k hk.symm
    exact ⟨ty_ne hc h1 (by decide), ty_ne hc h5 (by decide), fun e => by
      obtain ⟨cur', hc'⟩ := own_block h2 e.symm
      exact ty_ne hc hc' (by decide) rfl⟩
  refine ⟨⟨⟨v, h1.keep hf ?_, own_keep h2 hf ?_, h3⟩, hb, h5.keep hf ?_⟩, hf.mono fun i _ hi => ?_, ?_⟩
  · rintro (e | e)
    · exact ty_ne h1 hB (by decide) e
    · exact (hrt _ e).1 rfl
  · rintro g hg (e | e)
    · obtain ⟨cur', hc'⟩ := own_block h2 hg
      exact ty_ne hc' hB (by decide) e
    · exact (hrt g e).2.2 hg.symm
  · rintro (e | e)
    · exact ty_ne h5 hB (by decide) e
    · exact (hrt _ e).2.1 rfl
  · rcases hi with hi | hi
    · exact .inr (.inl hi)
    · exact .inr (.inr (.inr (.inr hi)))
  · rintro k (hk | hk | hk | hk | hk)
    · exact .inl (.inl hk)
    · exact .inl (.inr (.inl hk))
    · exact .inl (.inr (.inr (.inl hk)))
    · exact .inl (.inr (.inr (.inr (.inl hk))))
    · rcases hr with e | ⟨g, e, hg⟩
      · exact .inl (.inr (.inr (.inr (.inr (hk.trans e)))))
      · rw [e] at hk
        injection hk with hk
        exact .inr (by omega)

theorem fs_gone {w : World} {bO bT bG : Nat} {ro rt : Option Nat} {out : List Pc} {text : List UInt8} {gone : Int} (h : FmS w bO bT bG ro rt out text gone) (g' : Int) :
    FmS (w.setCell ⟨bG, 0, none⟩ (.int .i64 g')) bO bT bG ro rt out text g' ∧ Fr (fsOf bO bT bG ro rt) w (w.setCell ⟨bG, 0, none⟩ (.int .i64 g')) := by
  obtain ⟨⟨v, h1, h2, h3⟩, h4, h5⟩ := h
  obtain ⟨cB, hB⟩ := h4.blk
  have hf : Fr (· = bG) w (w.setCell ⟨bG, 0, none⟩ (.int .i64 g')) := Fr.setCell _ w ⟨bG, 0, none⟩ _ rfl
  refine ⟨⟨⟨v, h1.keep hf (ty_ne h1 h5 (by decide)), own_keep h2 hf (fun g hg => ?_), h3⟩, h4.keep hf (ty_ne hB h5 (by decide)) (fun g hg => ?_), h5.set _⟩, hf.mono fun i _ hi => .inr (.inr (.inl hi))⟩
  · obtain ⟨cur', hc'⟩ := own_block h2 hg
    exact ty_ne hc' h5 (by decide)
  · obtain ⟨cur, hc⟩ := h4.row_block g hg
    exact ty_ne hc h5 (by decide)

/-- behind an append of one piece and its store into 'out' -/
theorem fs_push {w w2 : World} {bO bT bG : Nat} {ro rt : Option Nat} {out : List Pc} {text : List UInt8} {gone : Int} {o : Obj} {v V2 : Value} {x : Pc}
    (h : FmS w bO bT bG ro rt out text gone) (hv : Var w bO 22 v) (how : w.ownsRow 0 31 3 v out.length (pcE.flat out)) (hro : v.ownBlock = ro)
    (hg : (w.alloc o).grownBy w2 v.ownBlock) (hat : V2.ownBlock = v.ownBlock ∨ ∃ g, V2.ownBlock = some g ∧ w.heap.size ≤ g)
    (hown2 : w2.ownsRow 0 31 3 V2 (out.length + 1) (pcE.flat out ++ pcE.flat [x])) :
    Var w2 bO 22 v ∧
    (FmS (w2.setCell ⟨bO, 0, none⟩ V2) bO bT bG V2.ownBlock rt (out ++ [x]) text gone ∧ Fr (fsOf bO bT bG ro rt) w (w2.setCell ⟨bO, 0, none⟩ V2) ∧ ∀ k, fsOf bO bT bG V2.ownBlock rt k → fsOf bO bT bG ro rt k ∨ w.heap.size ≤ k) := by
  obtain ⟨_, h4, h5⟩ := h
  obtain ⟨p, u, _, hB, hrow⟩ := id h4
  have hTO : bT ≠ bO := ty_ne hB hv (by decide)
  have hGO : bG ≠ bO := ty_ne h5 hv (by decide)
  have hrt : ∀ k, some k = rt → k ≠ bO ∧ some k ≠ v.ownBlock := fun k hk => by
    obtain ⟨cur, hc⟩ := h4.row_block k hk.symm
    exact ⟨ty_ne hc hv (by decide), fun e => by
      obtain ⟨cur', hc'⟩ := own_block how e.symm
      exact ty_ne hc hc' (by decide) rfl⟩
  have hvr : ∀ k, some k = v.ownBlock → k ≠ bO ∧ k ≠ bG ∧ k ≠ bT := fun k hk => by
    obtain ⟨cur, hc⟩ := own_block how hk.symm
    exact ⟨ty_ne hc hv (by decide), ty_ne hc h5 (by decide), ty_ne hc hB (by decide)⟩
  have f1 : Fr (fun k => some k = v.ownBlock) w w2 := (Fr.alloc _ w o).trans (Fr.of_grown hg)
  have f2 : Fr (fun k => some k = v.ownBlock ∨ k = bO) w (w2.setCell ⟨bO, 0, none⟩ V2) :=
    (f1.mono fun i _ hi => .inl hi).trans (Fr.setCell _ w2 ⟨bO, 0, none⟩ V2 (.inr rfl))
  have hVO : Var w2 bO 22 v := hv.keep f1 (fun e => (hvr _ e).1 rfl)
  have hV2O : ∀ g, V2.ownBlock = some g → g ≠ bO := fun g hg' => by
    obtain ⟨cur, hc⟩ := own_block hown2 hg'
    exact ty_ne hc hVO (by decide)
  refine ⟨hVO, ⟨⟨V2, hVO.set V2, ?_, rfl⟩, ?_, ?_⟩, ?_, ?_⟩
  · have e1 : pcE.flat (out ++ [x]) = pcE.flat out ++ pcE.flat [x] := pcE.flat_append out [x]
    rw [e1, List.length_append]
    exact own_keep hown2 (Fr.setCell (· = bO) w2 ⟨bO, 0, none⟩ V2 rfl) (fun g hg' => hV2O g hg')
  · refine h4.keep f2 ?_ ?_
    · rintro (e | e)
      · exact (hvr _ e).2.2 rfl
      · exact hTO e
    · rintro g hg' (e | e)
      · exact (hrt g hg'.symm).2 e
      · exact (hrt g hg'.symm).1 e
  · refine h5.keep f2 ?_
    rintro (e | e)
    · exact (hvr _ e).2.1 rfl
    · exact hGO e
  · refine f2.mono fun i _ hi => ?_
    rcases hi with hi | hi
    · exact .inr (.inr (.inr (.inl (hi.trans hro))))
    · exact .inl hi
  · rintro k (hk | hk | hk | hk | hk)
    · exact .inl (.inl hk)
    · exact .inl (.inr (.inl hk))
    · exact .inl (.inr (.inr (.inl hk)))
    · rcases hat with e | ⟨g, e, hg'⟩
      · exact .inl (.inr (.inr (.inr (.inl (hk.trans (e.trans hro))))))
      · rw [e] at hk
        injection hk with hk
        exact .inr (by omega)
    · exact .inl (.inr (.inr (.inr (.inr hk))))

/-- a store into an element of a row that is owned -/
theorem own_set {w : World} {e : TypeId} {size n g cap : Nat} {xs : List Value} (h : w.ownsRow 0 e size (.slice (some ⟨g, 0, none⟩) n cap) n xs) (j : Nat) (u : Value) :
    (w.setCell ⟨g, j, none⟩ u).ownsRow 0 e size (.slice (some ⟨g, 0, none⟩) n cap) n (xs.set j u) := by
  rcases h.2 with ⟨h1, h2⟩ | ⟨g', cap', cur, h1, hb, hg, h3, h4, h5, h6⟩
  · cases h1
  · injection h1 with e1 e2 e3
    injection e1 with e1
    injection e1 with e1
    subst e1 e3
    refine ⟨by rw [List.length_set]; exact h.1, .inr ⟨g, cap, cur.setIfInBounds j u, rfl, hb, by simp [World.setCell, Array.getElem?_modify, hg], h3, h4, by simpa using h5, ?_⟩⟩
    rw [Array.toList_setIfInBounds, ← h6]
    by_cases hj : j < n * size
    · rw [List.take_set]
    · rw [List.take_set_of_le (by omega), List.set_eq_of_length_le]
      simp; omega

/-- the three cells of an element of a row that is owned -/
theorem own_pc {w : World} {v : Value} {n : Nat} {l : List Pc} (h : w.ownsRow 0 31 3 v n (pcE.flat l)) {k : Nat} (hk : k < l.length) :
    ∃ g cap, v = .slice (some ⟨g, 0, none⟩) l.length cap ∧ n = l.length ∧ g < w.heap.size ∧ w.cell? ⟨g, k * 3, none⟩ = some (.int .u8 l[k].k) ∧ w.cell? ⟨g, k * 3 + 1, none⟩ = some (.int .i64 l[k].n) ∧ w.cell? ⟨g, k * 3 + 2, none⟩ = some (.string ⟨l[k].t.toArray⟩) ∧ ∀ j, w.frozen? ⟨g, j, none⟩ = false := by
  have hn : n = l.length := by
    have := h.1; rw [pcE.flat_len] at this
    exact (Nat.eq_of_mul_eq_mul_right pcE.pos this).symm
  subst hn
  rcases h.2 with ⟨rfl, h0⟩ | ⟨g, cap, cur, rfl, _, hg, _⟩
  · omega
  · have hx : l[k]? = some l[k] := List.getElem?_eq_getElem hk
    have hc : ∀ j u, (pcE.cells l[k])[j]? = some u → w.cell? ⟨g, k * 3 + j, none⟩ = some u := fun j u hu => by
      have := h.cells (g := g) rfl (k * 3 + j) u (pcE.flat_at l k j _ u hx hu)
      rw [add_flat] at this
      simpa using this
    exact ⟨g, cap, rfl, rfl, heap_lt hg, hc 0 _ rfl, hc 1 _ rfl, hc 2 _ rfl, fun j => Lib.frozen_of_heap hg j⟩

theorem flat_set_n (l : List Pc) (q : Pc) (m : Int) : (pcE.flat (l ++ [q])).set (l.length * 3 + 1) (.int .i64 m) = pcE.flat (l ++ [⟨q.k, m, q.t⟩]) := by
  have e : ∀ x : Pc, pcE.flat [x] = x.cells := fun x => by simp [Enc.flat, pcE]
  rw [pcE.flat_append, pcE.flat_append, List.set_append, if_neg (by rw [pcE.flat_len]; simp [pcE]), pcE.flat_len, e, e]
  have : l.length * 3 + 1 - l.length * pcE.sz = 1 := by simp [pcE]
  rw [this]
  rfl

theorem fs_bump {w : World} {bO bT bG : Nat} {ro rt : Option Nat} {out : List Pc} {q : Pc} {text : List UInt8} {gone : Int} (h : FmS w bO bT bG ro rt (out ++ [q]) text gone) {g cap : Nat} (hv : Var w bO 22 (.slice (some ⟨g, 0, none⟩) (out ++ [q]).length cap)) (m : Int) :
    FmS (w.setCell ⟨g, out.length * 3 + 1, none⟩ (.int .i64 m)) bO bT bG ro rt (out ++ [⟨q.k, m, q.t⟩]) text gone ∧ Fr (fsOf bO bT bG ro rt) w (w.setCell ⟨g, out.length * 3 + 1, none⟩ (.int .i64 m)) := by
  obtain ⟨⟨v, h1, h2, h3⟩, h4, h5⟩ := h
  have e0 : v = .slice (some ⟨g, 0, none⟩) (out ++ [q]).length cap := by
    have := hv.cell
    rw [h1.cell] at this
    injection this
  subst e0
  have hro : ro = some g := h3.symm
  obtain ⟨cg, hg⟩ := own_block h2 (g := g) rfl
  obtain ⟨cB, hB⟩ := h4.blk
  have hf : Fr (· = g) w (w.setCell ⟨g, out.length * 3 + 1, none⟩ (.int .i64 m)) := Fr.setCell _ w ⟨g, _, none⟩ _ rfl
  refine ⟨⟨⟨_, h1.keep hf (ty_ne h1 hg (by decide)), ?_, h3⟩, h4.keep hf (ty_ne hB hg (by decide)) (fun k hk => ?_), h5.keep hf (ty_ne h5 hg (by decide))⟩, hf.mono fun i _ hi => .inr (.inr (.inr (.inl (by rw [hi, hro]))))⟩
  · have h6 := own_set h2 (out.length * 3 + 1) (.int .i64 m)
    rw [flat_set_n] at h6
    simpa using h6
  · obtain ⟨cur, hc⟩ := h4.row_block k hk
    exact ty_ne hc hg (by decide)

/-- the state of form's loop -/
structure FSt where
  out : List Pc
  text : List UInt8
  gone : Int

def addRetain (out : List Pc) (p : Pc) : List Pc :=
  match out.getLast? with
  | some q => if q.k = 1 then out.dropLast ++ [⟨q.k, q.n + p.n, q.t⟩] else out ++ [p]
  | none => [p]

def formStep (s : FSt) (p : Pc) : FSt :=
  if p.k = 2 then ⟨s.out, s.text ++ p.t, s.gone⟩ else if p.k = 3 then ⟨s.out, s.text, s.gone + p.n⟩ else ⟨addRetain (flushed s.out s.text s.gone) p, [], 0⟩
def formSt (l : List Pc) : FSt := l.foldl formStep ⟨[], [], 0⟩
def formS (l : List Pc) : List Pc := flushed (formSt l).out (formSt l).text (formSt l).gone

/-- what form asks of its pieces -/
def FormPre (l : List Pc) : Prop := l.length ≤ 100000 ∧ ∀ p ∈ l, 0 ≤ p.n ∧ p.n ≤ 1048576 ∧ p.t.length ≤ 1048576

structure FBd (k c : Nat) (s : FSt) : Prop where
  len : s.out.length ≤ 3 * k
  txt : s.text.length ≤ c
  g0 : 0 ≤ s.gone
  g1 : s.gone ≤ c
  n : ∀ q ∈ s.out, 0 ≤ q.n ∧ q.n ≤ c

theorem flushed_bd {k c : Nat} {s : FSt} (h : FBd k c s) : (flushed s.out s.text s.gone).length ≤ 3 * k + 2 ∧ ∀ q ∈ flushed s.out s.text s.gone, 0 ≤ q.n ∧ q.n ≤ c := by
  obtain ⟨h1, h2, h3, h4, h5⟩ := h
  unfold flushed
  by_cases ht : s.text = [] <;> by_cases hg : 0 < s.gone
  · simp only [ht, hg, if_true]
    refine ⟨by simp; omega, fun q hq => ?_⟩
    rw [List.mem_append] at hq
    rcases hq with hq | hq
    · exact h5 q hq
    · simp at hq; subst hq; exact ⟨h3, h4⟩
  · simp only [ht, hg, if_true, if_false]
    exact ⟨by omega, h5⟩
  · simp only [ht, hg, if_true, if_false]
    refine ⟨by simp; omega, fun q hq => ?_⟩
    rw [List.mem_append, List.mem_append] at hq
    rcases hq with (hq | hq) | hq
    · exact h5 q hq
    · simp at hq; subst hq; exact ⟨by simp, by simp⟩
    · simp at hq; subst hq; exact ⟨h3, h4⟩
  · simp only [ht, hg, if_false]
    refine ⟨by simp; omega, fun q hq => ?_⟩
    rw [List.mem_append] at hq
    rcases hq with hq | hq
    · exact h5 q hq
    · simp at hq; subst hq; exact ⟨by simp, by simp⟩

theorem formStep_bd {k c d : Nat} {s : FSt} (h : FBd k c s) {p : Pc} (hp : 0 ≤ p.n ∧ p.n ≤ d ∧ p.t.length ≤ d) : FBd (k + 1) (c + d) (formStep s p) := by
  obtain ⟨f1, f2⟩ := flushed_bd h
  obtain ⟨h1, h2, h3, h4, h5⟩ := h
  have hw : ∀ q ∈ s.out, 0 ≤ q.n ∧ q.n ≤ (c + d : Nat) := fun q hq => by have := h5 q hq; omega
  unfold formStep
  split
  · exact ⟨by simp; omega, by simp; omega, h3, by simp; omega, hw⟩
  · split
    · exact ⟨by simp; omega, by simp; omega, by simp; omega, by simp; omega, hw⟩
    · unfold addRetain
      generalize flushed s.out s.text s.gone = o at f1 f2
      split
      · rename_i q hq
        have hmem : q ∈ o := List.mem_of_getLast? hq
        have hqn := f2 q hmem
        split
        · refine ⟨by simp; omega, by simp, by simp, by simp; omega, fun x hx => ?_⟩
          simp only [List.mem_append, List.mem_singleton] at hx
          rcases hx with hx | hx
          · have := f2 x (List.dropLast_subset _ hx); omega
          · subst hx; simp; omega
        · refine ⟨by simp; omega, by simp, by simp, by simp; omega, fun x hx => ?_⟩
          simp only [List.mem_append, List.mem_singleton] at hx
          rcases hx with hx | hx
          · have := f2 x hx; omega
          · subst hx; omega
      · exact ⟨by simp; omega, by simp, by simp, by simp; omega, fun x hx => by simp at hx; subst hx; omega⟩

theorem formSt_bd {d : Nat} (l : List Pc) (h : ∀ p ∈ l, 0 ≤ p.n ∧ p.n ≤ d ∧ p.t.length ≤ d) : FBd l.length (l.length * d) (formSt l) := by
  have key : ∀ (m : List Pc) (k c : Nat) (s : FSt), FBd k c s → (∀ p ∈ m, 0 ≤ p.n ∧ p.n ≤ d ∧ p.t.length ≤ d) → FBd (k + m.length) (c + m.length * d) (m.foldl formStep s) := by
    intro m
    induction m with
    | nil => intro k c s hs _; simpa using hs
    | cons p m ih =>
      intro k c s hs hm
      have := ih (k + 1) (c + d) _ (formStep_bd hs (hm p (by simp))) (fun q hq => hm q (by simp [hq]))
      rw [List.length_cons, show k + (m.length + 1) = k + 1 + m.length by omega, show c + (m.length + 1) * d = c + d + m.length * d by rw [Nat.add_mul]; omega]
      exact this
  have := key l 0 0 ⟨[], [], 0⟩ ⟨by simp, by simp, by simp, by simp, by simp⟩ h
  simpa [formSt] using this

end Go.Proofs.Ytdlbjfgpfjcpaaa
