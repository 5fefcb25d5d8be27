/- From the reading of an argument as data to the kinds (Kd) that the printed contracts speak of: one lemma for each form of type. No condition. -/
import Derived.Test.YtbbnefpjnjjibaaRows
import Derived.Test.YtbbnefpjnjjibaaWWords
import Derived.ChangeArms
import Derived.OpenShut
import Derived.SizedLaws
import Derived.DataReads
namespace Go.Proofs.Ytbbnefpjnjjibaa.Opn
open Go.RowKit Go.Proofs.YtbbnefpjnjjibaaW.PrintWords
set_option linter.unusedVariables false

theorem bulk_pos {H : Type} (d : DataW H) : 1 ≤ Rows.uptoBulk d := by
  cases d with
  | lit l => cases l <;> simp [Rows.uptoBulk]
  | nil => simp [Rows.uptoBulk]
  | ptr d => simp [Rows.uptoBulk]
  | slice elems spare => simp [Rows.uptoBulk]
  | agg parts => simp [Rows.uptoBulk]
  | iface t d => simp [Rows.uptoBulk]
  | map entries => simp [Rows.uptoBulk]
  | held h => simp [Rows.uptoBulk]
theorem bulk_part {H : Type} {d : DataW H} {l : List (DataW H)} (h : d ∈ l) : Rows.uptoBulk d ≤ Rows.uptoBulkAll l := by
  induction l with
  | nil => cases h
  | cons x r ih =>
    simp only [Rows.uptoBulkAll]
    cases List.mem_cons.1 h with
    | inl e => subst e; omega
    | inr e => have := ih e; omega
theorem bulk_small {H : Type} {l : List (DataW H)} (hk : Rows.uptoSmall H l = true) : Rows.uptoBulkAll l ≤ 1048576 := by
  unfold Rows.uptoSmall at hk
  exact of_decide_eq_true hk

section
variable {H : Type} {α β : Type}
/-- Readings of type t open to kind d, with what is known of the value ('good') and how much it holds ('size', at most the data's bulk); fuel up to m. -/
def Opens (enc : TypeId × Value → H) (P : Program) (W : World) (m : Nat) (t : TypeId) (d : Kd α) (good : α → Prop) (size : α → Nat) : Prop :=
  ∀ fuel, fuel ≤ m → ∀ cs x, DataW.trod enc P W 0 (fun _ => true) true fuel t cs = some x → (∀ n ∈ x.1.weights P t, n ≤ reachBytes) → ∃ a, d.K W a cs ∧ good a ∧ size a ≤ Rows.uptoBulk x.1
variable {enc : TypeId × Value → H} {P : Program} {W : World} {m : Nat} {t e : TypeId} {d : Kd α} {good : α → Prop} {size : α → Nat}

theorem Opens.le {m' : Nat} (h : Opens enc P W m t d good size) (hm : m' ≤ m) : Opens enc P W m' t d good size := fun fuel hf => h fuel (Nat.le_trans hf hm)
theorem opens_int {k : IntKind} (ht : P.underlying t = some (.int k)) : Opens enc P W m t (Kd.int k) (fun n => (Lit.int k n).wf = true) (fun _ => 1) := by
  intro fuel _ cs x h _
  obtain ⟨n, rfl, rfl, hw⟩ := DataW.trod_int ht h
  exact ⟨n, rfl, hw, bulk_pos _⟩
theorem opens_bool (ht : P.underlying t = some .bool) : Opens enc P W m t Kd.bool (fun _ => True) (fun _ => 1) := by
  intro fuel _ cs x h _
  obtain ⟨n, rfl, rfl⟩ := DataW.trod_bool ht h
  exact ⟨n, rfl, trivial, bulk_pos _⟩
theorem opens_string (ht : P.underlying t = some .string) : Opens enc P W m t Kd.string (fun s => s.size ≤ 140737488351232) (fun s => s.size + 1) := by
  intro fuel _ cs x h hw
  obtain ⟨s, rfl, rfl, _⟩ := DataW.trod_string ht h
  have h1 := hw s.data.toList.length (by simp [DataW.weights])
  rw [data_length] at h1
  refine ⟨s, rfl, h1, ?_⟩
  simp only [Rows.uptoBulk]
  rw [data_length]
  omega
theorem weights_all {e : TypeId} {l : List (DataW H)} {d : DataW H} (hd : d ∈ l) : ∀ n ∈ d.weights P e, n ∈ DataW.weightsAll P e l := by
  induction l with
  | nil => cases hd
  | cons x r ih =>
    intro n hn
    simp only [DataW.weightsAll, List.mem_append]
    cases List.mem_cons.1 hd with
    | inl h => subst h; exact .inl hn
    | inr h => exact .inr (ih h n hn)
/-- A list of values for a list of readings. -/
theorem pick {γ : Type} (R : α → γ → Prop) : ∀ l : List γ, (∀ x ∈ l, ∃ a, R a x) → ∃ bs : List α, bs.length = l.length ∧ ∀ (i : Nat) (a : α), bs[i]? = some a → ∃ x, l[i]? = some x ∧ R a x
  | [], _ => ⟨[], rfl, fun i a h => by simp at h⟩
  | x :: r, h => by
    obtain ⟨a, ha⟩ := h x List.mem_cons_self
    obtain ⟨bs, hl, hg⟩ := pick R r (fun y hy => h y (List.mem_cons_of_mem _ hy))
    refine ⟨a :: bs, by simp [hl], fun i b hb => ?_⟩
    cases i with
    | zero =>
      obtain rfl : a = b := by simpa using hb
      exact ⟨x, rfl, ha⟩
    | succ i => exact hg i b (by simpa using hb)
theorem sizes_le {γ : Type} (f : γ → DataW H) : ∀ (bs : List α) (l : List γ), bs.length = l.length → (∀ (i : Nat) (a : α), bs[i]? = some a → ∃ x, l[i]? = some x ∧ size a ≤ Rows.uptoBulk (f x)) → (bs.map size).sum ≤ Rows.uptoBulkAll (l.map f)
  | [], _, _, _ => by simp
  | a :: bs, [], h, _ => by simp at h
  | a :: bs, x :: r, h, hg => by
    obtain ⟨y, hy, h1⟩ := hg 0 a rfl
    obtain rfl : x = y := by simpa using hy
    have h2 := sizes_le f bs r (by simpa using h) (fun i b hb => hg (i + 1) b (by simpa using hb))
    simp only [List.map_cons, List.sum_cons, Rows.uptoBulkAll]
    omega
/-- What is known of a row: its room, and of its elements. -/
def GoodRow (bytes : Nat) (good : α → Prop) (xs : List α) : Prop := xs.length * bytes ≤ 140737488351232 ∧ xs.length ≤ 9223372036854775807 ∧ ∀ x ∈ xs, good x
def SizeRow (size : α → Nat) (xs : List α) : Nat := (xs.map size).sum + 1
theorem opens_slice (ht : P.underlying t = some (.slice e)) (hsz : P.cellsOf e = d.sz) (h : Opens enc P W m e d good size) : Opens enc P W (m + 1) t (Kd.slice e d) (GoodRow (P.bytesOf e) good) (SizeRow size) := by
  intro fuel hf cs x hx hw
  rcases DataW.trod_slice ht hx with ⟨rfl, rfl⟩ | ⟨ad, len, cap, elems, rest, n, rfl, rfl, rfl, _, hlc, hcm, hel, hread, _, _⟩
  · exact ⟨[], ⟨none, 0, rfl, Nat.le_refl _, rfl, by simp, fun h => absurd h (Nat.lt_irrefl 0)⟩, ⟨by simp, by simp, fun x hx => by cases hx⟩, by simp [SizeRow, Rows.uptoBulk]⟩
  · have hroom := hw ((elems.map (·.1)).length * P.bytesOf e + (rest.map (·.1)).length * P.bytesOf e) (by simp [DataW.weights, ht, Nat.add_mul])
    simp only [List.length_map] at hroom
    have key2 : ∀ iy ∈ elems.zipIdx, ∃ a : α, (∃ c, c.length = d.sz ∧ d.K W a c ∧ ∀ j u, c[j]? = some u → W.cell? (ad.add (iy.2 * d.sz + j)) = some u) ∧ good a ∧ size a ≤ Rows.uptoBulk iy.1.1 := by
      rintro ⟨y, i⟩ hy
      have hi : elems[i]? = some y := by simpa [List.mem_zipIdx_iff_getElem?] using hy
      have hil : i < len := by rw [← hel]; exact (List.getElem?_eq_some_iff.1 hi).1
      have hr := hread i hil
      rw [hi] at hr
      obtain ⟨c, hc, htr⟩ := Option.bind_eq_some_iff.1 hr
      obtain ⟨a, hK, hg, hs⟩ := h n (by omega) c y htr (fun k hk => hw k (by simp only [DataW.weights, ht, List.mem_cons, List.mem_append]; exact .inr (.inl (weights_all (List.mem_map_of_mem (List.mem_of_getElem? hi)) k hk))))
      obtain ⟨_, hcl, hcc⟩ := World.cells?_some hc
      refine ⟨a, ⟨c, by rw [hcl, hsz], hK, fun j u hj => ?_⟩, hg, hs⟩
      have hjl : j < P.cellsOf e := by rw [← hcl]; exact (List.getElem?_eq_some_iff.1 hj).1
      have := hcc j hjl
      rw [add_add, hsz] at this
      rw [this, hj]
    obtain ⟨bs, hal, hag⟩ := pick (fun a (iy : (DataW H × List MemPlace) × Nat) => (∃ c, c.length = d.sz ∧ d.K W a c ∧ ∀ j u, c[j]? = some u → W.cell? (ad.add (iy.2 * d.sz + j)) = some u) ∧ good a ∧ size a ≤ Rows.uptoBulk iy.1.1) elems.zipIdx key2
    have hlen : bs.length = len := by rw [hal, List.length_zipIdx, hel]
    have hat : ∀ (i : Nat) (a : α), bs[i]? = some a → ∃ y, elems[i]? = some y ∧ (∃ c, c.length = d.sz ∧ d.K W a c ∧ ∀ j u, c[j]? = some u → W.cell? (ad.add (i * d.sz + j)) = some u) ∧ good a ∧ size a ≤ Rows.uptoBulk y.1 := by
      intro i a ha
      obtain ⟨⟨y, i'⟩, hy, hR⟩ := hag i a ha
      have hi2 : elems[i]? = some y ∧ i' = i := by
        rw [List.getElem?_zipIdx] at hy
        obtain ⟨z, hz, hz2⟩ := Option.map_eq_some_iff.1 hy
        have := Prod.mk.inj hz2
        exact ⟨by rw [hz, this.1], by omega⟩
      rw [hi2.2] at hR
      exact ⟨y, hi2.1, hR⟩
    refine ⟨bs, ⟨some ad, cap, by rw [hlen], by rw [hlen]; exact hlc, ?_⟩, ⟨?_, ?_, ?_⟩, ?_⟩
    · refine ⟨rfl, by rw [hlen]; unfold maxLen at hcm; omega, fun _ => ⟨ad, rfl, fun j p hj => ?_⟩⟩
      obtain ⟨_, _, hc, _⟩ := hat j p hj
      exact hc
    · rw [hlen, ← hel]
      unfold reachBytes at hroom
      exact Nat.le_trans (Nat.le_add_right _ _) hroom
    · rw [hlen]; unfold maxLen at hcm; omega
    · intro a ha
      obtain ⟨i, hi⟩ := List.mem_iff_getElem?.1 ha
      obtain ⟨_, _, _, hg, _⟩ := hat i a hi
      exact hg
    · have := sizes_le (size := size) (fun x : DataW H × List MemPlace => x.1) bs elems (by rw [hlen, hel]) (fun i a ha => by
        obtain ⟨y, hy, _, _, hs⟩ := hat i a ha
        exact ⟨y, hy, hs⟩)
      unfold SizeRow
      simp only [Rows.uptoBulk]
      omega

/-- Values that are read one behind the other. -/
inductive FieldsRead (enc : TypeId × Value → H) (P : Program) (W : World) (n : Nat) : List TypeId → List Value → List (DataW H × List MemPlace) → Prop
  | nil : FieldsRead enc P W n [] [] []
  | cons {t : TypeId} {ts : List TypeId} {c cs : List Value} {x : DataW H × List MemPlace} {xs : List (DataW H × List MemPlace)} (h : DataW.trod enc P W 0 (fun _ => true) true n t c = some x) (hs : FieldsRead enc P W n ts cs xs) : FieldsRead enc P W n (t :: ts) (c ++ cs) (x :: xs)
/-- Fields one behind the other, from offset o on, to the end (total). -/
def consec (P : Program) : Nat → Nat → List (Nat × TypeId) → Bool
  | o, total, [] => decide (o = total)
  | o, total, (off, t) :: r => decide (off = o) && consec P (o + P.cellsOf t) total r
theorem fieldsRead_of {n total : Nat} {cs : List Value} (hl : cs.length = total) : ∀ (fs : List (Nat × TypeId)) (o : Nat) (xs : List (DataW H × List MemPlace)), xs.length = fs.length → consec P o total fs = true → o ≤ total →
    (∀ (i : Nat) (off : Nat) (t : TypeId), fs[i]? = some (off, t) → DataW.trod enc P W 0 (fun _ => true) true n t ((cs.drop off).take (P.cellsOf t)) = xs[i]?) → FieldsRead enc P W n (fs.map (·.2)) (cs.drop o) xs
  | [], o, xs, hx, hc, ho, h => by
    have e : o = total := of_decide_eq_true hc
    obtain rfl : xs = [] := List.length_eq_zero_iff.1 hx
    rw [List.drop_of_length_le (by omega)]
    exact .nil
  | (off, t) :: r, o, [], hx, hc, ho, h => by simp at hx
  | (off, t) :: r, o, x :: xs, hx, hc, ho, h => by
    simp only [consec, Bool.and_eq_true, decide_eq_true_eq] at hc
    obtain ⟨rfl, hc⟩ := hc
    have h0 := h 0 off t rfl
    have ho2 : off + P.cellsOf t ≤ total := by
      clear h0 h hx
      suffices ∀ (r : List (Nat × TypeId)) (o : Nat), consec P o total r = true → o ≤ total from this r _ hc
      intro r
      induction r with
      | nil => intro o h; have := of_decide_eq_true h; omega
      | cons y r ih =>
        intro o h
        obtain ⟨off', t'⟩ := y
        simp only [consec, Bool.and_eq_true, decide_eq_true_eq] at h
        have := ih _ h.2
        omega
    have e : cs.drop off = (cs.drop off).take (P.cellsOf t) ++ cs.drop (off + P.cellsOf t) := by
      rw [← List.drop_drop, List.take_append_drop]
    rw [e]
    exact .cons (by simpa using h0) (fieldsRead_of hl r (off + P.cellsOf t) xs (by simpa using hx) hc ho2 (fun i off' t' hi => h (i + 1) off' t' hi))
/-- Rows of fields that open to kind d. -/
def OpensRow (enc : TypeId × Value → H) (P : Program) (W : World) (m : Nat) (ts : List TypeId) (d : Kd α) (good : α → Prop) (size : α → Nat) : Prop :=
  ∀ fuel, fuel ≤ m → ∀ cs xs, FieldsRead enc P W fuel ts cs xs → (∀ n ∈ DataW.weightsEach P ts (xs.map (·.1)), n ≤ reachBytes) → ∃ a, d.K W a cs ∧ good a ∧ size a ≤ Rows.uptoBulkAll (xs.map (·.1))
theorem row_one (h : Opens enc P W m t d good size) : OpensRow enc P W m [t] d good size := by
  intro fuel hf cs xs hr hw
  cases hr with
  | cons hx hs =>
    cases hs
    obtain ⟨a, hK, hg, hz⟩ := h fuel hf _ _ hx (fun n hn => hw n (by simp [DataW.weightsEach, hn]))
    exact ⟨a, by rw [List.append_nil]; exact hK, hg, by simp only [List.map_cons, List.map_nil, Rows.uptoBulkAll]; omega⟩
theorem row_cons {d2 : Kd β} {good2 : β → Prop} {size2 : β → Nat} {ts : List TypeId} (h : Opens enc P W m t d good size) (h2 : OpensRow enc P W m ts d2 good2 size2) :
    OpensRow enc P W m (t :: ts) (Kd.pair d d2) (fun x => good x.1 ∧ good2 x.2) (fun x => size x.1 + size2 x.2) := by
  intro fuel hf cs xs hr hw
  cases hr with
  | cons hx hs =>
    obtain ⟨a, hK, hg, hz⟩ := h fuel hf _ _ hx (fun n hn => hw n (by simp [DataW.weightsEach, hn]))
    obtain ⟨b, hK2, hg2, hz2⟩ := h2 fuel hf _ _ hs (fun n hn => hw n (by simp only [List.map_cons, DataW.weightsEach, List.mem_append]; exact .inr hn))
    exact ⟨(a, b), ⟨_, _, rfl, hK, hK2⟩, ⟨hg, hg2⟩, by simp only [List.map_cons, Rows.uptoBulkAll]; omega⟩
theorem opens_struct {fs : Array Field} (ht : P.underlying t = some (.struct fs)) (hc : consec P 0 (P.cellsOf t) (fs.toList.map fun f => (f.offset, f.type)) = true)
    (h : OpensRow enc P W m (fs.toList.map (·.type)) d good size) : Opens enc P W (m + 1) t d good (fun a => size a + 1) := by
  intro fuel hf cs x hx hw
  obtain ⟨xs, n, rfl, rfl, hl, hn, hread⟩ := DataW.trod_struct ht hx
  have hr := fieldsRead_of (enc := enc) (P := P) (W := W) (n := n) hl (fs.toList.map fun f => (f.offset, f.type)) 0 xs (by simpa using hn) hc (Nat.zero_le _) (fun i off t hi => by
    rw [List.getElem?_map] at hi
    obtain ⟨f, hf, he⟩ := Option.map_eq_some_iff.1 hi
    obtain ⟨rfl, rfl⟩ := Prod.mk.inj he
    exact hread i f (by simpa using hf))
  rw [List.map_map] at hr
  obtain ⟨a, hK, hg, hz⟩ := h n (by omega) _ _ hr (fun k hk => hw k (by simp only [DataW.weights, ht]; exact hk))
  exact ⟨a, by simpa using hK, hg, by simp only [Rows.uptoBulk]; omega⟩
theorem weightsEach_rep (e : TypeId) : ∀ l : List (DataW H), DataW.weightsEach P (List.replicate l.length e) l = DataW.weightsAll P e l
  | [] => rfl
  | x :: r => by simp only [List.length_cons, List.replicate_succ, DataW.weightsEach, DataW.weightsAll, weightsEach_rep e r]
theorem opens_array {k : Nat} {e : TypeId} (ht : P.underlying t = some (.array k e)) (hc : consec P 0 (P.cellsOf t) ((List.range k).map fun i => (i * P.cellsOf e, e)) = true)
    (h : OpensRow enc P W m (List.replicate k e) d good size) : Opens enc P W (m + 1) t d good (fun a => size a + 1) := by
  intro fuel hf cs x hx hw
  obtain ⟨xs, n, rfl, rfl, hl, hn, hread⟩ := DataW.trod_array ht hx
  have hr := fieldsRead_of (enc := enc) (P := P) (W := W) (n := n) hl ((List.range k).map fun i => (i * P.cellsOf e, e)) 0 xs (by simpa using hn) hc (Nat.zero_le _) (fun i off t hi => by
    rw [List.getElem?_map] at hi
    obtain ⟨j, hj, he⟩ := Option.map_eq_some_iff.1 hi
    obtain ⟨rfl, rfl⟩ := Prod.mk.inj he
    have hik : i < k := by
      have := (List.getElem?_eq_some_iff.1 hj).1
      simpa using this
    have hji : j = i := by
      rw [List.getElem?_range hik] at hj
      exact (Option.some.inj hj).symm
    subst hji
    exact hread j hik)
  have e1 : ((List.range k).map fun i => (i * P.cellsOf e, e)).map (·.2) = List.replicate k e := by
    rw [List.map_map]
    apply List.ext_getElem (by simp)
    intro i h1 h2
    simp
  rw [e1] at hr
  obtain ⟨a, hK, hg, hz⟩ := h n (by omega) _ _ hr (fun j hj => hw j (by
    simp only [DataW.weights, ht]
    have := weightsEach_rep (P := P) e (xs.map (·.1))
    rw [List.length_map, hn] at this
    rw [← this]; exact hj))
  exact ⟨a, by simpa using hK, hg, by simp only [Rows.uptoBulk]; omega⟩
/-- Whatever the fuel: from one step more. -/
theorem opens_all (h : ∀ m, Opens enc P W (m + 1) t d good size) : ∀ m, Opens enc P W m t d good size := fun m => (h m).le (Nat.le_succ m)
/-- An argument, opened. -/
theorem opens_arg {v : Value} {x : DataW H} {p : List MemPlace} (h : ∀ m, Opens enc P W m t d good size) (hv : DataW.Trod enc P W 0 (fun _ => true) true t v x p) (hw : ∀ n ∈ x.weights P t, n ≤ reachBytes) : ∃ a, d.K W a v.cells.toList ∧ good a ∧ size a ≤ Rows.uptoBulk x := by
  obtain ⟨fuel, hf⟩ := hv
  exact h fuel fuel (Nat.le_refl _) _ _ hf hw
end
theorem okWide_agg {P : Program} {w : World} {r : Reach} {base : Nat} {t : TypeId} {v : Value} (ht : (∃ fs, P.underlying t = some (.struct fs)) ∨ ∃ n e, P.underlying t = some (.array n e)) (h : Value.okWide P w r base t v) : ∃ cs, v = .agg cs := by
  rcases ht with ⟨fs, ht⟩ | ⟨n, e, ht⟩
  · simp only [Value.okWide, ht] at h
    obtain ⟨cs, h1, _⟩ := h
    exact ⟨cs, h1⟩
  · simp only [Value.okWide, ht] at h
    obtain ⟨cs, h1, _⟩ := h
    exact ⟨cs, h1⟩
theorem agg_of_list {cs : Array Value} {l : List Value} (h : (Value.agg cs).cells.toList = l) : Value.agg cs = Value.agg l.toArray := by
  subst h
  simp [Value.cells]
end Go.Proofs.Ytbbnefpjnjjibaa.Opn
