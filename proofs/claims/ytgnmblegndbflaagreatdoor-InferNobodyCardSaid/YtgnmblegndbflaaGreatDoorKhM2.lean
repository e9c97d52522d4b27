/- '==' between structs, and between arrays, of numbers, truths and texts. -/
import Derived.Test.YtgnmblegndbflaaGreatDoorKhM
import Derived.Laws.StructEq
import Derived.ChangeKeysEq
namespace Go.Proofs.Kh
set_option linter.all false
set_option linter.unusedVariables false
set_option linter.unusedSimpArgs false
open Go
section
variable {P : Program}

def Formed (P : Program) (t : TypeId) (v : Value) : Prop := (aggOf P t = some true ∧ ∃ xs, v = .agg xs) ∨ (aggOf P t = some false ∧ oneCell v = true)

def CellsR (M : Mem) (v : Value) (as : List PD) : Prop := v.cells.size = as.length ∧ ∀ (k : Nat) (u : Value) (c : PD), v.cells[k]? = some u → as[k]? = some c → RelP M u c ∧ oneCell u = true

def LeafEq (P : Program) (dd : Nat) (t : TypeId) (ks : List Leaf) : Prop := ∀ (M : Mem) (w : World) (u v : Value) (as bs : List PD) (b : Bool),
  Formed P t u → Formed P t v → CellsR M u as → CellsR M v bs → eqLK ks as bs = some b → (Op.equalIn dd t u v).run P w = .ok b w

theorem eqLK_length : ∀ (ks : List Leaf) (as bs : List PD) (b : Bool), eqLK ks as bs = some b → as.length = ks.length ∧ bs.length = ks.length
  | [], [], [], _, _ => ⟨rfl, rfl⟩
  | k :: ks, a :: as, b :: bs, r, h => by
    simp only [eqLK] at h
    split at h
    · rename_i x y hx hy
      obtain ⟨e1, e2⟩ := eqLK_length ks as bs y hy
      exact ⟨by simp [e1], by simp [e2]⟩
    · cases h
  | [], _ :: _, _, _, h => by simp [eqLK] at h
  | [], [], _ :: _, _, h => by simp [eqLK] at h
  | _ :: _, [], _, _, h => by simp [eqLK] at h
  | _ :: _, _ :: _, [], _, h => by simp [eqLK] at h

theorem eqLK_append : ∀ (l r : List Leaf) (as bs : List PD) (b : Bool), eqLK (l ++ r) as bs = some b →
    ∃ b1 b2, eqLK l (as.take l.length) (bs.take l.length) = some b1 ∧ eqLK r (as.drop l.length) (bs.drop l.length) = some b2 ∧ b = (b1 && b2)
  | [], r, as, bs, b, h => ⟨true, b, rfl, by simpa using h, by simp⟩
  | k :: l, r, [], bs, b, h => by simp [eqLK] at h
  | k :: l, r, a :: as, [], b, h => by simp [eqLK] at h
  | k :: l, r, a :: as, c :: bs, b, h => by
    simp only [List.cons_append, eqLK] at h
    split at h
    · rename_i x y hx hy
      injection h with h; subst h
      obtain ⟨b1, b2, e1, e2, e3⟩ := eqLK_append l r as bs y hy
      refine ⟨x && b1, b2, ?_, by simpa using e2, by rw [e3, Bool.and_assoc]⟩
      simp [eqLK, hx, e1]
    · cases h

theorem part_ok {w : World} {t s off : Nat} {g : Bool} {xs : Array Value} (hs : sizeT P t = some s) (hg : aggOf P t = some g) (h1 : g = false → s = 1) (ho : ∀ (k : Nat) (u : Value), xs[k]? = some u → oneCell u = true) (hle : off + s ≤ xs.size) :
    ∃ v, (part t xs off).run P w = .ok v w ∧ Formed P t v ∧ v.cells.size = s ∧ ∀ k, k < s → v.cells[k]? = xs[off + k]? := by
  obtain ⟨i, hi, rfl⟩ : ∃ i, P.info? t = some i ∧ i.size = s := by
    unfold sizeT at hs; simp only [Option.map_eq_some_iff] at hs; exact hs
  cases g with
  | true =>
    refine ⟨.agg (xs.extract off (off + i.size)), ?_, .inl ⟨hg, _, rfl⟩, ?_, fun k hk => ?_⟩
    · simp [part, run_isAgg hg, run_info hi]
    · simp only [Value.cells, Array.size_extract]; omega
    · simp only [Value.cells, Array.getElem?_extract]
      rw [if_pos (by omega)]
  | false =>
    have h2 := h1 rfl
    have hlt : off < xs.size := by omega
    have hone := ho off xs[off] (by simp [hlt])
    refine ⟨xs[off], ?_, .inr ⟨hg, hone⟩, by rw [oneCell_cells hone]; simpa using h2.symm, fun k hk => ?_⟩
    · simp [part, run_isAgg hg, hlt]
    · have : k = 0 := by omega
      subst this
      rw [oneCell_cells hone]
      simp [hlt]

theorem leaves_size {m t : Nat} {ks : List Leaf} (h : leaves P m t = some ks) : ∃ g, aggOf P t = some g ∧ (g = false → ks.length = 1) := by
  cases m with
  | zero => simp [leaves] at h
  | succ m =>
    simp only [leaves] at h
    unfold aggOf
    split at h <;> first | (cases h; done) | skip
    all_goals (rename_i hu; simp only [hu])
    · injection h with h; subst h; exact ⟨false, rfl, fun _ => rfl⟩
    · injection h with h; subst h; exact ⟨false, rfl, fun _ => rfl⟩
    · injection h with h; subst h; exact ⟨false, rfl, fun _ => rfl⟩
    · exact ⟨true, rfl, fun h => by cases h⟩
    · exact ⟨true, rfl, fun h => by cases h⟩

/-- A part of two structs, held against each other. -/
theorem step_leaf {M : Mem} {w : World} {dd t s off : Nat} {ks : List Leaf} {g : Bool} {xs ys : Array Value} {as bs : List PD} {b : Bool} (IH : LeafEq P dd t ks) (hs : sizeT P t = some s) (hk : ks.length = s) (hg : aggOf P t = some g) (h1 : g = false → ks.length = 1)
    (hx : CellsR M (.agg xs) as) (hy : CellsR M (.agg ys) bs) (hle : off + s ≤ as.length) (hle2 : off + s ≤ bs.length) (he : eqLK ks ((as.drop off).take ks.length) ((bs.drop off).take ks.length) = some b) :
    ∃ u v, (part t xs off).run P w = .ok u w ∧ (part t ys off).run P w = .ok v w ∧ (Op.equalIn dd t u v).run P w = .ok b w := by
  have x1 : xs.size = as.length := hx.1
  have y1 : ys.size = bs.length := hy.1
  have one : ∀ {zs : Array Value} {cs : List PD}, CellsR M (.agg zs) cs → ∀ (k : Nat) (u : Value), zs[k]? = some u → oneCell u = true := fun {zs cs} h k u hu => by
    have hk : k < cs.length := by have := (Array.getElem?_eq_some_iff.1 hu).1; have := h.1; simp only [Value.cells] at this; omega
    exact (h.2 k u cs[k] hu (by simp [hk])).2
  obtain ⟨u, p1, p2, p3, p4⟩ := part_ok (P := P) (w := w) (off := off) hs hg (fun e => by rw [← hk]; exact h1 e) (one hx) (by omega)
  obtain ⟨v, q1, q2, q3, q4⟩ := part_ok (P := P) (w := w) (off := off) hs hg (fun e => by rw [← hk]; exact h1 e) (one hy) (by omega)
  refine ⟨u, v, p1, q1, IH M w u v _ _ b p2 q2 ⟨by rw [p3]; simp; omega, fun k z c hz hc => ?_⟩ ⟨by rw [q3]; simp; omega, fun k z c hz hc => ?_⟩ he⟩
  · have hk' : k < s := by rw [← p3]; exact (Array.getElem?_eq_some_iff.1 hz).1
    rw [p4 k hk'] at hz
    rw [List.getElem?_take, if_pos (by omega), List.getElem?_drop] at hc
    exact hx.2 (off + k) z c hz hc
  · have hk' : k < s := by rw [← q3]; exact (Array.getElem?_eq_some_iff.1 hz).1
    rw [q4 k hk'] at hz
    rw [List.getElem?_take, if_pos (by omega), List.getElem?_drop] at hc
    exact hy.2 (off + k) z c hz hc

theorem fields_leaf {M : Mem} {w : World} {dd m : Nat} {xs ys : Array Value} {as bs : List PD} (IH : ∀ t ks, leaves P m t = some ks → LeafEq P dd t ks) (hx : CellsR M (.agg xs) as) (hy : CellsR M (.agg ys) bs) :
    ∀ (fs : List Field) (off : Nat) (ks : List Leaf) (b : Bool), leavesG P (leaves P m) off fs = some ks → off ≤ as.length → off ≤ bs.length → eqLK ks (as.drop off) (bs.drop off) = some b → (Op.eqFields dd xs ys fs).run P w = .ok b w
  | [], off, ks, b, h, _, _, he => by
    simp only [leavesG, Option.some.injEq] at h; subst h
    have hl := eqLK_length _ _ _ _ he
    have h1 : as.drop off = [] := List.eq_nil_of_length_eq_zero hl.1
    have h2 : bs.drop off = [] := List.eq_nil_of_length_eq_zero hl.2
    rw [h1, h2] at he
    simp only [eqLK, Option.some.injEq] at he; subst he
    simp [Op.eqFields]
  | f :: fs, off, ks, b, h, ha, hb, he => by
    simp only [leavesG] at h
    split at h
    · rename_i l s r hl hs hr
      split at h
      · rename_i hc
        obtain ⟨c1, c2, c3⟩ := hc
        injection h with h; subst h
        obtain ⟨b1, b2, e1, e2, e3⟩ := eqLK_append l r _ _ b he
        obtain ⟨g, hg, h1⟩ := leaves_size hl
        have hlen := eqLK_length _ _ _ _ he
        simp only [List.length_drop, List.length_append] at hlen
        obtain ⟨u, v, p1, p2, p3⟩ := step_leaf (M := M) (w := w) (off := off) (IH f.type l hl) hs c1 hg h1 hx hy (by omega) (by omega) e1
        have hs' : (sizeT P f.type).getD 0 = s := by rw [hs]; rfl
        rw [hs'] at hr
        have ih := fields_leaf (w := w) IH hx hy fs (off + s) r b2 hr (by omega) (by omega) (by rw [List.drop_drop, List.drop_drop, c1] at e2; exact e2)
        simp only [Op.eqFields, c2, ne_eq, not_false_eq_true, if_true, Sem.run_bind, c3, p1, p2, p3, Result.andThen_ok]
        cases b1
        · simp [e3]
        · simpa [e3] using ih
      · cases h
    · cases h

theorem items_leaf {M : Mem} {w : World} {dd e s : Nat} {l : List Leaf} {g : Bool} {xs ys : Array Value} {as bs : List PD} (IH : LeafEq P dd e l) (hs : sizeT P e = some s) (hl : l.length = s) (hg : aggOf P e = some g) (h1 : g = false → l.length = 1)
    (hx : CellsR M (.agg xs) as) (hy : CellsR M (.agg ys) bs) : ∀ (n k : Nat) (b : Bool), k * s ≤ as.length → k * s ≤ bs.length → eqLK (List.replicate n l).flatten (as.drop (k * s)) (bs.drop (k * s)) = some b →
    (Op.eqItems dd e s xs ys (List.range' k n)).run P w = .ok b w
  | 0, k, b, _, _, he => by
    simp only [List.replicate_zero, List.flatten_nil] at he
    have hl := eqLK_length _ _ _ _ he
    have h1 : as.drop (k * s) = [] := List.eq_nil_of_length_eq_zero hl.1
    have h2 : bs.drop (k * s) = [] := List.eq_nil_of_length_eq_zero hl.2
    rw [h1, h2] at he
    simp only [eqLK, Option.some.injEq] at he; subst he
    simp [Op.eqItems]
  | n + 1, k, b, ha, hb, he => by
    rw [List.replicate_succ, List.flatten_cons] at he
    obtain ⟨b1, b2, e1, e2, e3⟩ := eqLK_append l _ _ _ b he
    have hlen := eqLK_length _ _ _ _ he
    simp only [List.length_drop, List.length_append] at hlen
    obtain ⟨u, v, p1, p2, p3⟩ := step_leaf (M := M) (w := w) (off := k * s) IH hs hl hg h1 hx hy (by omega) (by omega) e1
    have ih := items_leaf (w := w) IH hs hl hg h1 hx hy n (k + 1) b2 (by rw [Nat.add_mul]; omega) (by rw [Nat.add_mul]; omega) (by rw [List.drop_drop, List.drop_drop, hl] at e2; rw [Nat.add_mul, Nat.one_mul]; exact e2)
    rw [List.range'_succ]
    simp only [Op.eqItems, Sem.run_bind, p1, p2, p3, Result.andThen_ok]
    cases b1
    · simp [e3]
    · simpa [e3] using ih

theorem leaves_eq (d : Nat) : ∀ (m t : Nat) (ks : List Leaf), leaves P m t = some ks → LeafEq P (d + m) t ks
  | 0, t, ks, h => by simp [leaves] at h
  | m + 1, t, ks, h => by
    have IH := leaves_eq d m
    have h0 := h
    simp only [leaves] at h
    have one : ∀ {M : Mem} {u : Value} {as : List PD} {a : PD}, Formed P t u → aggOf P t = some false → CellsR M u as → as = [a] → RelP M u a := by
      intro M u as a hf hg hc ha
      subst ha
      rcases hf with ⟨h, _⟩ | ⟨_, h⟩
      · rw [h] at hg; cases hg
      · exact (hc.2 0 u a (by rw [oneCell_cells h]; rfl) rfl).1
    split at h <;> first | (cases h; done) | skip
    all_goals (rename_i hu)
    · injection h with h; subst h
      intro M w u v as bs b fu fv cu cv he
      have hg : aggOf P t = some false := by unfold aggOf; rw [hu]
      obtain ⟨l1, l2⟩ := eqLK_length _ _ _ _ he
      obtain ⟨a, rfl⟩ := List.length_eq_one_iff.1 l1
      obtain ⟨c, rfl⟩ := List.length_eq_one_iff.1 l2
      · simp only [eqLK] at he
        split at he
        · rename_i x y hx hy
          injection hy with hy; subst hy
          injection he with he; subst he
          have r1 := one fu hg cu rfl
          have r2 := one fv hg cv rfl
          cases a <;> cases c <;> simp only [eq1k] at hx <;> first | (cases hx; done) | skip
          split at hx
          · rename_i hkk; subst hkk
            injection hx with hx; subst hx
            rw [r1.int_inv, r2.int_inv, Bool.and_true]
            show (Op.equalIn (d + m + 1) t _ _).run P w = _
            rw [run_equalIn_int w _ t _ _ _ _ hu]
          · cases hx
        · cases he
    · injection h with h; subst h
      intro M w u v as bs b fu fv cu cv he
      have hg : aggOf P t = some false := by unfold aggOf; rw [hu]
      obtain ⟨l1, l2⟩ := eqLK_length _ _ _ _ he
      obtain ⟨a, rfl⟩ := List.length_eq_one_iff.1 l1
      obtain ⟨c, rfl⟩ := List.length_eq_one_iff.1 l2
      · simp only [eqLK] at he
        split at he
        · rename_i x y hx hy
          injection hy with hy; subst hy
          injection he with he; subst he
          have r1 := one fu hg cu rfl
          have r2 := one fv hg cv rfl
          cases a <;> cases c <;> simp only [eq1k] at hx <;> first | (cases hx; done) | skip
          injection hx with hx; subst hx
          rw [r1.bool_inv, r2.bool_inv, Bool.and_true]
          show (Op.equalIn (d + m + 1) t _ _).run P w = _
          rw [run_equalIn_bool' w _ t _ _ hu]
        · cases he
    · injection h with h; subst h
      intro M w u v as bs b fu fv cu cv he
      have hg : aggOf P t = some false := by unfold aggOf; rw [hu]
      obtain ⟨l1, l2⟩ := eqLK_length _ _ _ _ he
      obtain ⟨a, rfl⟩ := List.length_eq_one_iff.1 l1
      obtain ⟨c, rfl⟩ := List.length_eq_one_iff.1 l2
      · simp only [eqLK] at he
        split at he
        · rename_i x y hx hy
          injection hy with hy; subst hy
          injection he with he; subst he
          have r1 := one fu hg cu rfl
          have r2 := one fv hg cv rfl
          cases a <;> cases c <;> simp only [eq1k] at hx <;> first | (cases hx; done) | skip
          injection hx with hx; subst hx
          rw [r1.str_inv, r2.str_inv, Bool.and_true]
          show (Op.equalIn (d + m + 1) t _ _).run P w = _
          rw [run_equalIn_string w _ t _ _ hu]
          simp [ByteArray.toList_eq]
        · cases he
    · -- a struct
      rename_i fs
      split at h
      · rename_i hst
        intro M w u v as bs b fu fv cu cv he
        have hg : aggOf P t = some true := by unfold aggOf; rw [hu]
        obtain ⟨xs, rfl⟩ : ∃ xs, u = .agg xs := by
          rcases fu with ⟨_, h⟩ | ⟨h, _⟩
          · exact h
          · rw [hg] at h; cases h
        obtain ⟨ys, rfl⟩ : ∃ xs, v = .agg xs := by
          rcases fv with ⟨_, h⟩ | ⟨h, _⟩
          · exact h
          · rw [hg] at h; cases h
        have hf : P.fieldsOf t = fs := by unfold Program.fieldsOf; rw [hu]
        show (Op.equalIn (d + m + 1) t _ _).run P w = _
        rw [run_equalIn_struct w _ t xs ys (by rw [hf]; exact hu) hst, hf]
        exact fields_leaf IH cu cv fs.toList 0 ks b h (Nat.zero_le _) (Nat.zero_le _) (by simpa using he)
      · cases h
    · -- an array
      rename_i n e
      split at h
      · rename_i l s hl hs
        split at h
        · rename_i hls
          injection h with h; subst h
          intro M w u v as bs b fu fv cu cv he
          have hg : aggOf P t = some true := by unfold aggOf; rw [hu]
          obtain ⟨xs, rfl⟩ : ∃ xs, u = .agg xs := by
            rcases fu with ⟨_, h⟩ | ⟨h, _⟩
            · exact h
            · rw [hg] at h; cases h
          obtain ⟨ys, rfl⟩ : ∃ xs, v = .agg xs := by
            rcases fv with ⟨_, h⟩ | ⟨h, _⟩
            · exact h
            · rw [hg] at h; cases h
          obtain ⟨i, hi, hsz⟩ : ∃ i, P.info? e = some i ∧ i.size = s := by
            unfold sizeT at hs; simp only [Option.map_eq_some_iff] at hs; exact hs
          obtain ⟨g, hgg, h1⟩ := leaves_size hl
          show (Op.equalIn (d + m + 1) t _ _).run P w = _
          rw [run_equalIn_array w _ xs ys hu hi, show P.cellsOf e = s by simp [Program.cellsOf, hi, hsz], List.range_eq_range']
          exact items_leaf (IH e l hl) hs hls hgg h1 cu cv n 0 b (by simp) (by simp) (by simpa using he)
        · cases h
      · cases h
end
end Go.Proofs.Kh
