/- apply.parts: the result of a delta, what it removes and what it inserts. Condition: valid pieces that fit the string. -/
import Derived.Test.YtdlbjfgpfjcpaaaRef3c
import Derived.Laws.EntriesVeiled
namespace Go.Proofs.Ytdlbjfgpfjcpaaa
open Go.RowKit

theorem run_findKey_u8 {P : Program} {w : World} {K : TypeId} (hK : P.underlying K = some (.int .u8)) (k : Int) (es : List MapEntry) (r : Option (Nat × Value)) (h : Instr.findNow (.int .u8) (.int .u8 k) es 0 = some r) :
    (Instr.findKey K (.int .u8 k) es).run P w = .ok r w := by
  unfold Instr.findKey
  simp [run_underlying hK, h]

theorem run_checkKey_u8 {P : Program} {w : World} {K : TypeId} (hK : P.underlying K = some (.int .u8)) (k : Int) (b : Bool) (n : Nat) : (Instr.checkKey b (n + 1) K (.int .u8 k)).run P w = .ok () w := by
  unfold Instr.checkKey
  simp [run_underlying hK]

theorem run_insert_u8 {P : Program} {w : World} {T K E : TypeId} (hT : P.underlying T = some (.map K E)) (hK : P.underlying K = some (.int .u8)) {r : Nat} {es : Array MapEntry} {c : Nat} (hb : w.heap[r]? = some (.map es c)) (k : Int) (v : Value)
    (hn : Instr.findNow (.int .u8) (.int .u8 k) es.toList 0 = some none) :
    (Instr.mapUpdate T (.map (some r)) (.int .u8 k) v).run P w = .ok () { w with heap := w.heap.setIfInBounds r (.map (es.push { key := .int .u8 k, val := v, born := c }) (c + 1)) } := by
  unfold Instr.mapUpdate
  have h1 := run_findKey_u8 (P := P) (w := w) hK k es.toList none hn
  have h2 := fun b => run_checkKey_u8 (P := P) (w := w) hK k b 9999
  simp [run_underlying hT, getObj, setObj, Sem.run, hb, h1, h2]

theorem run_lookup_u8 {P : Program} {w : World} {T K E : TypeId} (hT : P.underlying T = some (.map K E)) (hK : P.underlying K = some (.int .u8)) {r : Nat} {es : Array MapEntry} {c : Nat} (hb : w.heap[r]? = some (.map es c)) (k : Int) (i : Nat) (v : Value)
    (hn : Instr.findNow (.int .u8) (.int .u8 k) es.toList 0 = some (some (i, v))) :
    (Instr.lookup T (.map (some r)) (.int .u8 k) false).run P w = .ok v w := by
  unfold Instr.lookup
  have h1 := run_findKey_u8 (P := P) (w := w) hK k es.toList _ hn
  have h2 := fun b => run_checkKey_u8 (P := P) (w := w) hK k b 9999
  simp [run_underlying hT, getObj, Sem.run, hb, h1, h2]

theorem wpList_insert_u8 {P : Program} {w : World} {ops : Array Oper} {rest : List Oper} {o : Oper} {a : Act} {Q : Exit → Act → World → Prop} (hgd : o.guard = none) (T K E : TypeId) (mx kx vx : Operand) (ho : o.op = .insert T mx kx vx)
    (hT : P.underlying T = some (.map K E)) (hK : P.underlying K = some (.int .u8)) (r : Nat) (es : Array MapEntry) (c : Nat) (k : Int) (v : Value) (hm : a.eval mx = .map (some r)) (hk : a.eval kx = .int .u8 k) (hv : a.eval vx = v)
    (hb : w.heap[r]? = some (.map es c)) (hn : Instr.findNow (.int .u8) (.int .u8 k) es.toList 0 = some none)
    (h : ∀ w', w'.heap[r]? = some (.map (es.push { key := .int .u8 k, val := v, born := c }) (c + 1)) → Fr (· = r) w w' → w'.heap.size = w.heap.size → wpList P ops Q rest (a.put o.dst undef) w') : wpList P ops Q (o :: rest) a w := by
  refine wpList_plain hgd fun K' hK' => ?_
  have hr := run_insert_u8 (P := P) (w := w) hT hK hb k v hn
  have hlt : r < w.heap.size := heap_lt hb
  unfold Oper.wp execOp
  simp only [ho, hm, hk, hv, Sem.run_bind, hr, Result.andThen_ok, Sem.run_pure]
  refine hK' _ _ (h _ ?_ ⟨rfl, rfl, rfl, by simp, fun i _ hi => ?_⟩ (by simp))
  · simp [hlt]
  · simp only [Array.getElem?_setIfInBounds]
    rw [if_neg (fun e => hi e.symm)]

theorem ext_str (s : List UInt8) (a b : Nat) : (⟨s.toArray⟩ : ByteArray).extract a b = ⟨((s.take b).drop a).toArray⟩ := by
  have h : ((⟨s.toArray⟩ : ByteArray).extract a b).data = s.toArray.extract a b := by simp [ByteArray.extract, ByteArray.copySlice]
  have h2 : (⟨s.toArray⟩ : ByteArray).extract a b = ⟨((⟨s.toArray⟩ : ByteArray).extract a b).data⟩ := rfl
  rw [h2, h]
  simp [List.drop_take]

set_option maxHeartbeats 1000000 in
theorem take_any (bS : Nat) (s : List UInt8) (n : Int) (w : World) (h : Var w bS 9 (.string ⟨s.toArray⟩)) (h0 : 0 ≤ n) (h1 : n ≤ s.length) (_h2 : s.length ≤ 1048576) :
    Calls Try.prog 106 #[.int .i64 n, .pointer (some ⟨bS, 0, none⟩)] w fun e w' => e = .returned (.string ⟨(s.take n.toNat).toArray⟩) ∧ w' = w.setCell ⟨bS, 0, none⟩ (.string ⟨(s.drop n.toNat).toArray⟩) := by
  obtain ⟨m, rfl⟩ := Int.eq_ofNat_of_zero_le h0
  have c := h.cell
  have f := h.frozen
  go_enter Try.func106, Try.ntmps106
  go_wp2
  go_ret
  refine ⟨?_, ?_⟩
  · have e : (⟨s.toArray⟩ : ByteArray).extract 0 m = ⟨(s.take (m : Int).toNat).toArray⟩ := by rw [ext_str]; simp
    rw [← e]
    rfl
  · have e : (⟨s.toArray⟩ : ByteArray).extract m s.length = ⟨(s.drop (m : Int).toNat).toArray⟩ := by rw [ext_str]; simp
    rw [← e]

/-- two builders share no row -/
def apartRows (r r' : Option Nat) : Prop := ∀ g, r = some g → r' ≠ some g

/-- the variables of parts: the string that is left (block bS), three builders, the closure take (bF) and the map (bM) -/
structure PS (w : World) (bS bF bM b1 b2 b3 : Nat) (es : Array MapEntry) (r1 r2 r3 : Option Nat) (s o1 o2 o3 : List UInt8) : Prop where
  s : Var w bS 9 (.string ⟨s.toArray⟩)
  f : Var w bF 121 (.func (.func 106) #[] #[.pointer (some ⟨bS, 0, none⟩)])
  m : w.heap[bM]? = some (.map es 3)
  d1 : Bd w b1 r1 o1
  d2 : Bd w b2 r2 o2
  d3 : Bd w b3 r3 o3
  n12 : b1 ≠ b2
  n13 : b1 ≠ b3
  n23 : b2 ≠ b3
  a12 : apartRows r1 r2
  a13 : apartRows r1 r3
  a23 : apartRows r2 r3

theorem apartRows.symm {r r' : Option Nat} (h : apartRows r r') : apartRows r' r := fun g hg e => h g e hg

section
variable {w w' : World} {bS bF bM b1 b2 b3 : Nat} {es : Array MapEntry} {r1 r2 r3 : Option Nat} {s o1 o2 o3 : List UInt8}

theorem PS.rot (h : PS w bS bF bM b1 b2 b3 es r1 r2 r3 s o1 o2 o3) : PS w bS bF bM b2 b3 b1 es r2 r3 r1 s o2 o3 o1 :=
  ⟨h.s, h.f, h.m, h.d2, h.d3, h.d1, h.n23, h.n12.symm, h.n13.symm, h.a23, h.a12.symm, h.a13.symm⟩

theorem cells_ne_map {a b : Nat} {c : Array Value} {t : TypeId} {f : Nat × Nat} {n : Nat} (h : w.heap[a]? = some (.cells c t f)) (k : w.heap[b]? = some (.map es n)) : b ≠ a := by
  rintro rfl
  rw [h] at k
  injection k with k
  cases k

theorem PS.keep {T : Nat → Prop} (h : PS w bS bF bM b1 b2 b3 es r1 r2 r3 s o1 o2 o3) (hf : Fr T w w') (hs : ¬ T bS) (hF : ¬ T bF) (hM : ¬ T bM) (h1 : ¬ T b1) (h2 : ¬ T b2) (h3 : ¬ T b3) (k1 : ∀ g, r1 = some g → ¬ T g) (k2 : ∀ g, r2 = some g → ¬ T g) (k3 : ∀ g, r3 = some g → ¬ T g) :
    PS w' bS bF bM b1 b2 b3 es r1 r2 r3 s o1 o2 o3 :=
  ⟨h.s.keep hf hs, h.f.keep hf hF, (hf.block bM (heap_lt h.m) hM).trans h.m, h.d1.keep hf h1 k1, h.d2.keep hf h2 k2, h.d3.keep hf h3 k3, h.n12, h.n13, h.n23, h.a12, h.a13, h.a23⟩

theorem PS.alloc (h : PS w bS bF bM b1 b2 b3 es r1 r2 r3 s o1 o2 o3) (o : Obj) : PS (w.alloc o) bS bF bM b1 b2 b3 es r1 r2 r3 s o1 o2 o3 :=
  h.keep (Fr.alloc (fun _ => False) w o) (fun h => h) (fun h => h) (fun h => h) (fun h => h) (fun h => h) (fun h => h) (fun _ _ h => h) (fun _ _ h => h) (fun _ _ h => h)

/-- the string that is left is cut -/
theorem PS.cut (h : PS w bS bF bM b1 b2 b3 es r1 r2 r3 s o1 o2 o3) (s' : List UInt8) : PS (w.setCell ⟨bS, 0, none⟩ (.string ⟨s'.toArray⟩)) bS bF bM b1 b2 b3 es r1 r2 r3 s' o1 o2 o3 ∧ Fr (· = bS) w (w.setCell ⟨bS, 0, none⟩ (.string ⟨s'.toArray⟩)) := by
  have hf : Fr (· = bS) w (w.setCell ⟨bS, 0, none⟩ (.string ⟨s'.toArray⟩)) := Fr.setCell _ w ⟨bS, 0, none⟩ _ rfl
  obtain ⟨c1, e1⟩ := h.d1.blk
  obtain ⟨c2, e2⟩ := h.d2.blk
  obtain ⟨c3, e3⟩ := h.d3.blk
  have hr : ∀ {b r l}, Bd w b r l → ∀ g, r = some g → ¬ g = bS := fun hb g hg => by
    obtain ⟨cur, hc⟩ := hb.row_block g hg
    exact ty_ne hc h.s (by decide)
  exact ⟨⟨h.s.set _, h.f.keep hf (ty_ne h.f h.s (by decide)), (hf.block bM (heap_lt h.m) (cells_ne_map h.s h.m)).trans h.m, h.d1.keep hf (ty_ne e1 h.s (by decide)) (hr h.d1), h.d2.keep hf (ty_ne e2 h.s (by decide)) (hr h.d2), h.d3.keep hf (ty_ne e3 h.s (by decide)) (hr h.d3), h.n12, h.n13, h.n23, h.a12, h.a13, h.a23⟩, hf⟩

/-- the first builder is written to -/
theorem PS.write (h : PS w bS bF bM b1 b2 b3 es r1 r2 r3 s o1 o2 o3) {r1' : Option Nat} {o1' : List UInt8} (hb : Bd w' b1 r1' o1') (hr : r1' = r1 ∨ ∃ g, r1' = some g ∧ w.heap.size ≤ g) (hf : Fr (fun k => k = b1 ∨ some k = r1) w w') :
    PS w' bS bF bM b1 b2 b3 es r1' r2 r3 s o1' o2 o3 := by
  obtain ⟨c1, e1⟩ := h.d1.blk
  obtain ⟨c2, e2⟩ := h.d2.blk
  obtain ⟨c3, e3⟩ := h.d3.blk
  have hrow : ∀ k c t f, w.heap[k]? = some (.cells c t f) → t ≠ 5 → ¬ some k = r1 := fun k c t f hk ht e => by
    obtain ⟨cur, hc⟩ := h.d1.row_block k e.symm
    exact ty_ne hk hc ht rfl
  have hap : ∀ {b r l}, Bd w b r l → apartRows r1 r → apartRows r1' r := fun hbd ha g hg e => by
    rcases hr with hr | ⟨g', hr, hlt⟩
    · exact ha g (hr ▸ hg) e
    · rw [hr] at hg
      injection hg with hg
      have := hbd.row_lt g e
      omega
  have hk : ∀ {b r l c}, Bd w b r l → w.heap[b]? = some (.cells c 114 (0, 0)) → b1 ≠ b → apartRows r1 r → Bd w' b r l := fun hbd hc hne ha =>
    hbd.keep hf (fun e => by rcases e with e | e; exact hne e.symm; exact hrow _ _ _ _ hc (by decide) e) (fun g hg e => by
      rcases e with e | e
      · obtain ⟨cur, hc'⟩ := hbd.row_block g hg
        exact ty_ne hc' e1 (by decide) e
      · exact ha g e.symm hg)
  refine ⟨h.s.keep hf ?_, h.f.keep hf ?_, (hf.block bM (heap_lt h.m) ?_).trans h.m, hb, hk h.d2 e2 h.n12 h.a12, hk h.d3 e3 h.n13 h.a13, h.n12, h.n13, h.n23, hap h.d2 h.a12, hap h.d3 h.a13, h.a23⟩
  · rintro (e | e)
    · exact ty_ne h.s e1 (by decide) e
    · exact hrow _ _ _ _ h.s (by decide) e
  · rintro (e | e)
    · exact ty_ne h.f e1 (by decide) e
    · exact hrow _ _ _ _ h.f (by decide) e
  · rintro (e | e)
    · exact cells_ne_map e1 h.m e
    · obtain ⟨cur, hc⟩ := h.d1.row_block bM e.symm
      exact cells_ne_map hc h.m rfl
end

/-- all that parts has made lies from B on -/
def PN (B bS b1 b2 b3 : Nat) (r1 r2 r3 : Option Nat) : Prop := B ≤ bS ∧ B ≤ b1 ∧ B ≤ b2 ∧ B ≤ b3 ∧ (∀ g, r1 = some g → B ≤ g) ∧ (∀ g, r2 = some g → B ≤ g) ∧ (∀ g, r3 = some g → B ≤ g)

set_option maxHeartbeats 2000000 in
set_option maxRecDepth 100000 in
theorem keepPart (p : Pc) (w : World) (bS bF bM b1 b2 b3 : Nat) (es : Array MapEntry) (r1 r2 r3 : Option Nat) (s o1 o2 o3 : List UInt8) (h : PS w bS bF bM b1 b2 b3 es r1 r2 r3 s o1 o2 o3) (h0 : 0 ≤ p.n) (h1 : p.n ≤ s.length) (h2 : s.length ≤ 1048576) (h3 : o1.length ≤ 10000000000000) :
    Calls Try.prog 107 #[p.v, .pointer (some ⟨b1, 0, none⟩), .pointer (some ⟨bF, 0, none⟩)] w fun e w' => e = .returned (.tuple #[]) ∧
      ∃ r1', PS w' bS bF bM b1 b2 b3 es r1' r2 r3 (s.drop p.n.toNat) (o1 ++ s.take p.n.toNat) o2 o3 ∧ Fr (fun k => k = bS ∨ k = b1 ∨ some k = r1) w w' ∧ (r1' = r1 ∨ ∃ g, r1' = some g ∧ w.heap.size ≤ g) := by
  obtain ⟨k, n, t⟩ := p
  unfold Pc.v
  dsimp only at h0 h1
  have ha := h.alloc (.cells #[.int .u8 k, .int .i64 n, .string ⟨t.toArray⟩] 31)
  have cf := h.f.cell
  have lf := h.f.lt
  have Ha := Lib.hid ha; clear ha
  have H := Lib.hid h; clear h
  go_enter Try.func107, Try.ntmps107
  go_wp2_with fail
  refine (take_any bS s n _ Ha.out.s h0 h1 h2).mono ?_
  rintro e w1 ⟨rfl, hw1⟩
  obtain ⟨c1, c2⟩ := Ha.out.cut (s.drop n.toNat)
  rw [← hw1] at c1 c2
  have C1 := Lib.hid c1; clear c1
  have C2 := Lib.hid c2; clear c2
  clear hw1 cf lf
  have hlt : (s.take n.toNat).length ≤ s.length := List.length_take_le' _ _
  go_wp2_with fail
  refine (writeString_any b1 r1 o1 (s.take n.toNat) w1 C1.out.d1 (by omega)).mono ?_
  rintro e w2 ⟨rfl, ⟨r1', hB, hr⟩, hf⟩
  have hP := C1.out.write hB hr hf
  go_wp2
  go_end0
  refine ⟨rfl, r1', hP, ((Fr.alloc _ w _).trans (C2.out.mono fun i _ hi => .inl hi)).step hf (fun i hi => ?_), ?_⟩
  · rcases hi with hi | hi
    · exact .inl (.inr (.inl hi))
    · exact .inl (.inr (.inr hi))
  · rcases hr with hr | ⟨g, hr, hg⟩
    · exact .inl hr
    · exact .inr ⟨g, hr, by have := C2.out.size; simp at this; omega⟩

set_option maxHeartbeats 2000000 in
set_option maxRecDepth 100000 in
theorem gonePart (p : Pc) (w : World) (bS bF bM b1 b2 b3 : Nat) (es : Array MapEntry) (r1 r2 r3 : Option Nat) (s o1 o2 o3 : List UInt8) (h : PS w bS bF bM b1 b2 b3 es r1 r2 r3 s o1 o2 o3) (h0 : 0 ≤ p.n) (h1 : p.n ≤ s.length) (h2 : s.length ≤ 1048576) (h3 : o1.length ≤ 10000000000000) :
    Calls Try.prog 108 #[p.v, .pointer (some ⟨b1, 0, none⟩), .pointer (some ⟨bF, 0, none⟩)] w fun e w' => e = .returned (.tuple #[]) ∧
      ∃ r1', PS w' bS bF bM b1 b2 b3 es r1' r2 r3 (s.drop p.n.toNat) (o1 ++ s.take p.n.toNat) o2 o3 ∧ Fr (fun k => k = bS ∨ k = b1 ∨ some k = r1) w w' ∧ (r1' = r1 ∨ ∃ g, r1' = some g ∧ w.heap.size ≤ g) := by
  obtain ⟨k, n, t⟩ := p
  unfold Pc.v
  dsimp only at h0 h1
  have ha := h.alloc (.cells #[.int .u8 k, .int .i64 n, .string ⟨t.toArray⟩] 31)
  have cf := h.f.cell
  have lf := h.f.lt
  have Ha := Lib.hid ha; clear ha
  have H := Lib.hid h; clear h
  go_enter Try.func108, Try.ntmps108
  go_wp2_with fail
  refine (take_any bS s n _ Ha.out.s h0 h1 h2).mono ?_
  rintro e w1 ⟨rfl, hw1⟩
  obtain ⟨c1, c2⟩ := Ha.out.cut (s.drop n.toNat)
  rw [← hw1] at c1 c2
  have C1 := Lib.hid c1; clear c1
  have C2 := Lib.hid c2; clear c2
  clear hw1 cf lf
  have hlt : (s.take n.toNat).length ≤ s.length := List.length_take_le' _ _
  go_wp2_with fail
  refine (writeString_any b1 r1 o1 (s.take n.toNat) w1 C1.out.d1 (by omega)).mono ?_
  rintro e w2 ⟨rfl, ⟨r1', hB, hr⟩, hf⟩
  have hP := C1.out.write hB hr hf
  go_wp2
  go_end0
  refine ⟨rfl, r1', hP, ((Fr.alloc _ w _).trans (C2.out.mono fun i _ hi => .inl hi)).step hf (fun i hi => ?_), ?_⟩
  · rcases hi with hi | hi
    · exact .inl (.inr (.inl hi))
    · exact .inl (.inr (.inr hi))
  · rcases hr with hr | ⟨g, hr, hg⟩
    · exact .inl hr
    · exact .inr ⟨g, hr, by have := C2.out.size; simp at this; omega⟩

set_option maxHeartbeats 2000000 in
set_option maxRecDepth 100000 in
theorem putPart (p : Pc) (w : World) (bS bF bM b1 b2 b3 : Nat) (es : Array MapEntry) (r1 r2 r3 : Option Nat) (s o1 o2 o3 : List UInt8) (h : PS w bS bF bM b1 b2 b3 es r1 r2 r3 s o1 o2 o3) (h2 : p.t.length ≤ 1048576) (h3 : o1.length ≤ 10000000000000) (h4 : o3.length ≤ 10000000000000) :
    Calls Try.prog 109 #[p.v, .pointer (some ⟨b1, 0, none⟩), .pointer (some ⟨b3, 0, none⟩)] w fun e w' => e = .returned (.tuple #[]) ∧
      ∃ r1' r3', PS w' bS bF bM b1 b2 b3 es r1' r2 r3' s (o1 ++ p.t) o2 (o3 ++ p.t) ∧ Fr (fun k => k = b1 ∨ some k = r1 ∨ k = b3 ∨ some k = r3) w w' ∧ (r1' = r1 ∨ ∃ g, r1' = some g ∧ w.heap.size ≤ g) ∧ (r3' = r3 ∨ ∃ g, r3' = some g ∧ w.heap.size ≤ g) := by
  obtain ⟨k, n, t⟩ := p
  unfold Pc.v
  dsimp only at h2
  have ha := h.alloc (.cells #[.int .u8 k, .int .i64 n, .string ⟨t.toArray⟩] 31)
  have Ha := Lib.hid ha; clear ha
  have H := Lib.hid h; clear h
  go_enter Try.func109, Try.ntmps109
  go_wp2_with fail
  refine (writeString_any b1 r1 o1 t _ Ha.out.d1 (by omega)).mono ?_
  rintro e w1 ⟨rfl, ⟨r1', hB, hr⟩, hf⟩
  have hP := Lib.hid (Ha.out.write hB hr hf)
  have hbx := boxAt w ⟨k, n, t⟩ 31 hf (fun e => by
    rcases e with e | e
    · have := H.out.d1.lt; omega
    · have := H.out.d1.row_lt _ e.symm; omega)
  obtain ⟨x0, x1, x2, x3⟩ := hbx
  have Hr := Lib.hid hr; clear hr
  have Hf := Lib.hid hf; clear hf
  clear hB
  dsimp only at x0 x1 x2
  go_wp2_with fail
  refine (writeString_any b3 r3 o3 t w1 hP.out.d3 (by omega)).mono ?_
  rintro e w2 ⟨rfl, ⟨r3', hB, hr3⟩, hf3⟩
  have hQ := (hP.out.rot.rot.write hB hr3 hf3).rot
  go_wp2
  go_end0
  refine ⟨rfl, r1', r3', hQ, ((Fr.alloc _ w _).trans (Hf.out.mono fun i _ hi => ?_)).trans (hf3.mono fun i _ hi => ?_), ?_, ?_⟩
  · rcases hi with hi | hi
    · exact .inl hi
    · exact .inr (.inl hi)
  · rcases hi with hi | hi
    · exact .inr (.inr (.inl hi))
    · exact .inr (.inr (.inr hi))
  · rcases Hr.out with hr | ⟨g, hr, hg⟩
    · exact .inl hr
    · exact .inr ⟨g, hr, by simp at hg; omega⟩
  · rcases hr3 with hr | ⟨g, hr, hg⟩
    · exact .inl hr
    · exact .inr ⟨g, hr, by omega⟩

end Go.Proofs.Ytdlbjfgpfjcpaaa
