/- The machine's own memory: variables, and slices that grow; how it stands to the memory of the model; and that what is known stays known. -/
import Derived.Test.YtgnmblegndbflaaGreatDoorKhA
namespace Go.Proofs.Kh
set_option linter.all false
set_option linter.unusedVariables false
set_option linter.unusedSimpArgs false
open Go

/-- What a slot of a frame, or a cell of a variable, holds. -/
inductive AV where
  | pd (x : PD)
  | nil
  | tight (xs : List PD)
  | row (id n : Nat)
  | rp (id n i off : Nat)
  | ptr (id off : Nat)
  | clo (f : FuncId) (fs cs : List AV)
  | agg (cs : List AV)
  | tup (xs : List AV)
  | bot
  deriving Inhabited

/-- What there is in memory, by number: a variable; a row that a slice grows in (may it be written to? the cells of an element; the elements); what goes through a text; nothing any more. -/
inductive Obj where
  | var (cells : List AV)
  | row (mt : Bool) (sz : Nat) (xs : List PD)
  | iter (s : List UInt8) (pos : Nat)
  | dead
  deriving Inhabited

abbrev St := List Obj

mutual
def AV.und (m : Nat) : AV → Bool
  | .pd _ => true
  | .nil => true
  | .tight _ => true
  | .row id _ => decide (id < m)
  | .rp id _ _ _ => decide (id < m)
  | .ptr id _ => decide (id < m)
  | .clo _ fs cs => AV.undL m fs && AV.undL m cs
  | .agg cs => AV.undL m cs
  | .tup cs => AV.undL m cs
  | .bot => true
def AV.undL (m : Nat) : List AV → Bool
  | [] => true
  | c :: cs => AV.und m c && AV.undL m cs
end

def AV.clip (m : Nat) (x : AV) : AV := if x.und m then x else .bot

structure Gh where
  M : Mem
  ps : Nat → Option (Nat × Nat)

def Hdr (G : Gh) (id n : Nat) (v : Value) : Prop :=
  match G.ps id with
  | none => v = .slice none 0 0 ∧ n = 0
  | some (g, cap) => v = .slice (some ⟨g, 0, none⟩) n cap

def RowHas (G : Gh) (st : St) (id n : Nat) (v : Value) : Prop :=
  ∀ mt sz xs, st[id]? = some (.row mt sz xs) → n ≤ xs.length ∧ (xs.length = n → Hdr G id n v)

def RpHas (G : Gh) (st : St) (id n i off : Nat) (v : Value) : Prop :=
  ∀ mt sz xs, st[id]? = some (.row mt sz xs) → n ≤ xs.length ∧ (xs.length = n → ∃ g cap, G.ps id = some (g, cap) ∧ i < n ∧ v = .pointer (some ⟨g, i * sz + off, none⟩))

inductive RelV (G : Gh) (st : St) : Value → AV → Prop
  | pd (v : Value) (x : PD) (h : RelP G.M v x) : RelV G st v (.pd x)
  | nil : RelV G st (.slice none 0 0) .nil
  | tight (a : Option Addr) (n : Nat) (xs : List PD) (h : RelP G.M (.slice a n n) (.sl xs)) : RelV G st (.slice a n n) (.tight xs)
  | row (id n : Nat) (v : Value) (hi : id < st.length) (ho : oneCell v = true) (h : RowHas G st id n v) : RelV G st v (.row id n)
  | rp (id n i off : Nat) (v : Value) (hi : id < st.length) (ho : oneCell v = true) (h : RpHas G st id n i off v) : RelV G st v (.rp id n i off)
  | ptr (id off b c : Nat) (hi : id < st.length) (hr : ∀ mt sz xs, st[id]? ≠ some (.row mt sz xs)) (h : G.ps id = some (b, c)) : RelV G st (.pointer (some ⟨b, off, none⟩)) (.ptr id off)
  | clo (f : FuncId) (us vs : Array Value) (fs cs : List AV) (hk : us.size = fs.length) (hl : vs.size = cs.length) (hq : ∀ (k : Nat) (v : Value) (c : AV), us[k]? = some v → fs[k]? = some c → RelV G st v c)
      (hr : ∀ (k : Nat) (v : Value) (c : AV), vs[k]? = some v → cs[k]? = some c → RelV G st v c) : RelV G st (.func (.func f) us vs) (.clo f fs cs)
  | agg (vs : Array Value) (cs : List AV) (hl : vs.size = cs.length) (ho : ∀ (k : Nat) (v : Value), vs[k]? = some v → oneCell v = true)
      (hr : ∀ (k : Nat) (v : Value) (c : AV), vs[k]? = some v → cs[k]? = some c → RelV G st v c) : RelV G st (.agg vs) (.agg cs)
  | tup (vs : Array Value) (cs : List AV) (hl : vs.size = cs.length) (hr : ∀ (k : Nat) (v : Value) (c : AV), vs[k]? = some v → cs[k]? = some c → RelV G st v c) : RelV G st (.tuple vs) (.tup cs)
  | bot (v : Value) : RelV G st v .bot

def Owned (G : Gh) (st : St) (b : Nat) : Prop := ∃ i c, i < st.length ∧ G.ps i = some (b, c)

/-- None of the first cells is written to no more. -/
def okFr (n : Nat) (fr : Nat × Nat) : Prop := ∀ o, o < n → ¬ (fr.1 ≤ o ∧ o < fr.2)

def RowOK (G : Gh) (w : World) (id : Nat) (mt : Bool) (sz : Nat) (xs : List PD) : Prop :=
  (∀ x, x ∈ xs → x.cells.length = sz) ∧ (∀ c, c ∈ flat xs → c.single = true) ∧
  ((G.ps id = none ∧ xs = []) ∨
   ∃ (g cap : Nat) (cur : Array Value) (T : TypeId) (fr : Nat × Nat), G.ps id = some (g, cap) ∧ w.heap[g]? = some (.cells cur T fr) ∧ okFr cur.size fr ∧ cur.size = cap * sz ∧ xs.length ≤ cap ∧ cap ≤ maxLen ∧
     (∀ (k : Nat) (v : Value), cur[k]? = some v → oneCell v = true) ∧
     (∀ (k : Nat) (v : Value) (c : PD), cur[k]? = some v → (flat xs)[k]? = some c → RelP G.M v c) ∧
     ((mt = true ∧ ∀ o, G.M g o = none) ∨ (mt = false ∧ (∀ o, o < (flat xs).length → G.M g o = cur[o]?) ∧ ∀ o, (flat xs).length ≤ o → G.M g o = none)))

def ObjOK (G : Gh) (st : St) (w : World) (id : Nat) : Obj → Prop
  | .var cells => (∀ c, c ∈ cells → c.und st.length = true) ∧ (G.ps id = none ∨ ∃ (b c : Nat) (cur : Array Value) (T : TypeId), G.ps id = some (b, c) ∧ w.heap[b]? = some (.cells cur T (0, 0)) ∧ cur.size = cells.length ∧
      (∀ (k : Nat) (v : Value), cur[k]? = some v → oneCell v = true) ∧
      (∀ (k : Nat) (v : Value) (c : AV), cur[k]? = some v → cells[k]? = some c → RelV G st v c) ∧ ∀ o, G.M b o = none)
  | .row mt sz xs => RowOK G w id mt sz xs
  | .iter s pos => ∃ b c, G.ps id = some (b, c) ∧ w.heap[b]? = some (.stringIter ⟨s.toArray⟩ pos)
  | .dead => True

structure Inv (G : Gh) (st : St) (w : World) : Prop where
  mem : ∀ b o v, G.M b o = some v → w.cell? ⟨b, o, none⟩ = some v
  objs : ∀ id ob, st[id]? = some ob → ObjOK G st w id ob
  inj : ∀ i j p q, i < st.length → j < st.length → G.ps i = some p → G.ps j = some q → p.1 = q.1 → i = j
  lt : ∀ i p, i < st.length → G.ps i = some p → p.1 < w.heap.size

def Kept (G G' : Gh) (st' : St) (i : Nat) : Obj → Prop
  | .var _ => (∀ p, G.ps i = some p → G'.ps i = some p) ∧ ((∃ c', st'[i]? = some (.var c')) ∨ st'[i]? = some .dead)
  | .row _ sz xs => (∃ mt' xs', st'[i]? = some (.row mt' sz xs') ∧ xs.length ≤ xs'.length ∧ (xs'.length = xs.length → G'.ps i = G.ps i)) ∨ st'[i]? = some .dead
  | .iter _ _ => (∀ p, G.ps i = some p → G'.ps i = some p) ∧ ((∃ s p, st'[i]? = some (.iter s p)) ∨ st'[i]? = some .dead)
  | .dead => (∀ p, G.ps i = some p → G'.ps i = some p) ∧ st'[i]? = some .dead

/-- No variable below m leads to what is numbered m or above. -/
def Low (st : St) (m : Nat) : Prop := ∀ i cells, i < m → st[i]? = some (.var cells) → ∀ c, c ∈ cells → c.und m = true

structure Ext (tm : Nat) (G : Gh) (st : St) (w : World) (G' : Gh) (st' : St) (w' : World) : Prop where
  mem : Mem.le G.M G'.M
  size : w.heap.size ≤ w'.heap.size
  len : st.length ≤ st'.length
  kind : ∀ i ob, st[i]? = some ob → Kept G G' st' i ob
  foreign : ∀ b, b < w.heap.size → ¬ Owned G st b → w'.heap[b]? = w.heap[b]? ∧ ∀ o, G'.M b o = G.M b o
  blocks : ∀ i p, i < st'.length → G'.ps i = some p → (i < st.length ∧ ∃ c, G.ps i = some (p.1, c)) ∨ w.heap.size ≤ p.1
  age : ∀ m, m ≤ tm → Low st m → Low st' m
  os : w'.os = w.os
  tape : w'.tape = w.tape
  output : w'.output = w.output

theorem RelV.ext {tm : Nat} {G : Gh} {st : St} {w : World} {G' : Gh} {st' : St} {w' : World} (h : Ext tm G st w G' st' w') {v : Value} {x : AV} (hr : RelV G st v x) : RelV G' st' v x := by
  induction hr with
  | pd v x hx => exact .pd v x (hx.mono h.mem)
  | nil => exact .nil
  | tight a n xs hx => exact .tight a n xs (hx.mono h.mem)
  | row id n v hi ho hx =>
    refine .row id n v (Nat.lt_of_lt_of_le hi h.len) ho ?_
    intro mt' sz' xs' hs
    obtain ⟨ob, hob⟩ : ∃ ob, st[id]? = some ob := ⟨st[id], List.getElem?_eq_getElem hi⟩
    have hk := h.kind id ob hob
    cases ob with
    | row mt sz xs =>
      obtain ⟨h1, h2⟩ := hx mt sz xs hob
      rcases hk with ⟨mt'', xs'', e1, e2, e3⟩ | e1
      · rw [e1] at hs; injection hs with hs; injection hs with hs1 hs2 hs3; subst hs3
        refine ⟨by omega, fun e => ?_⟩
        have e4 := h2 (by omega)
        unfold Hdr at *
        rw [e3 (by omega)]; exact e4
      · rw [e1] at hs; cases hs
    | var c => rcases hk.2 with ⟨c', e⟩ | e <;> rw [e] at hs <;> cases hs
    | iter s p => rcases hk.2 with ⟨s', p', e⟩ | e <;> rw [e] at hs <;> cases hs
    | dead => rw [hk.2] at hs; cases hs
  | rp id n i off v hi ho hx =>
    refine .rp id n i off v (Nat.lt_of_lt_of_le hi h.len) ho ?_
    intro mt' sz' xs' hs
    obtain ⟨ob, hob⟩ : ∃ ob, st[id]? = some ob := ⟨st[id], List.getElem?_eq_getElem hi⟩
    have hk := h.kind id ob hob
    cases ob with
    | row mt sz xs =>
      obtain ⟨h1, h2⟩ := hx mt sz xs hob
      rcases hk with ⟨mt'', xs'', e1, e2, e3⟩ | e1
      · rw [e1] at hs; injection hs with hs; injection hs with hs1 hs2 hs3; subst hs3; subst hs2
        refine ⟨by omega, fun e => ?_⟩
        obtain ⟨g, cap, e4, e5, e6⟩ := h2 (by omega)
        exact ⟨g, cap, by rw [e3 (by omega)]; exact e4, e5, e6⟩
      · rw [e1] at hs; cases hs
    | var c => rcases hk.2 with ⟨c', e⟩ | e <;> rw [e] at hs <;> cases hs
    | iter s p => rcases hk.2 with ⟨s', p', e⟩ | e <;> rw [e] at hs <;> cases hs
    | dead => rw [hk.2] at hs; cases hs
  | ptr id off b c hi hr hx =>
    obtain ⟨ob, hob⟩ : ∃ ob, st[id]? = some ob := ⟨st[id], List.getElem?_eq_getElem hi⟩
    have hk := h.kind id ob hob
    cases ob with
    | row mt sz xs => exact (hr _ _ _ hob).elim
    | var cc => exact .ptr id off b c (Nat.lt_of_lt_of_le hi h.len) (fun _ _ _ hs => by rcases hk.2 with ⟨c', e⟩ | e <;> rw [e] at hs <;> cases hs) (hk.1 _ hx)
    | iter s p => exact .ptr id off b c (Nat.lt_of_lt_of_le hi h.len) (fun _ _ _ hs => by rcases hk.2 with ⟨s', p', e⟩ | e <;> rw [e] at hs <;> cases hs) (hk.1 _ hx)
    | dead => exact .ptr id off b c (Nat.lt_of_lt_of_le hi h.len) (fun _ _ _ hs => by rw [hk.2] at hs; cases hs) (hk.1 _ hx)
  | clo f us vs fs cs hk hl hq hr ih1 ih2 => exact .clo f us vs fs cs hk hl ih1 ih2
  | agg vs cs hl ho hr ih => exact .agg vs cs hl ho ih
  | tup vs cs hl hr ih => exact .tup vs cs hl ih
  | bot v => exact .bot v

theorem Ext.refl (tm : Nat) (G : Gh) (st : St) (w : World) : Ext tm G st w G st w where
  mem := Mem.le_refl _
  size := Nat.le_refl _
  len := Nat.le_refl _
  kind := fun i ob h => by
    cases ob with
    | var c => exact ⟨fun _ h => h, .inl ⟨c, h⟩⟩
    | row mt sz xs => exact .inl ⟨mt, xs, h, Nat.le_refl _, fun _ => rfl⟩
    | iter s p => exact ⟨fun _ h => h, .inl ⟨s, p, h⟩⟩
    | dead => exact ⟨fun _ h => h, h⟩
  foreign := fun _ _ _ => ⟨rfl, fun _ => rfl⟩
  blocks := fun i p hi hp => .inl ⟨hi, p.2, hp⟩
  age := fun _ _ h => h
  os := rfl
  tape := rfl
  output := rfl

theorem Ext.trans {tm : Nat} {G : Gh} {st : St} {w : World} {G' : Gh} {st' : St} {w' : World} {G2 : Gh} {st2 : St} {w2 : World}
    (h : Ext tm G st w G' st' w') (k : Ext tm G' st' w' G2 st2 w2) : Ext tm G st w G2 st2 w2 where
  mem := Mem.le_trans h.mem k.mem
  size := Nat.le_trans h.size k.size
  len := Nat.le_trans h.len k.len
  kind := fun i ob hob => by
    have h1 := h.kind i ob hob
    cases ob with
    | var c =>
      obtain ⟨p1, ⟨c', e⟩ | e⟩ := h1
      · have h2 := k.kind i _ e
        exact ⟨fun p hp => h2.1 _ (p1 _ hp), h2.2⟩
      · have h2 := k.kind i _ e
        exact ⟨fun p hp => h2.1 _ (p1 _ hp), .inr h2.2⟩
    | row mt sz xs =>
      rcases h1 with ⟨mt', xs', e, e2, e3⟩ | e
      · rcases k.kind i _ e with ⟨mt2, xs2, f, f2, f3⟩ | f
        · exact .inl ⟨mt2, xs2, f, by omega, fun g => (f3 (by omega)).trans (e3 (by omega))⟩
        · exact .inr f
      · exact .inr (k.kind i _ e).2
    | iter s p =>
      obtain ⟨p1, ⟨s', q, e⟩ | e⟩ := h1
      · have h2 := k.kind i _ e
        exact ⟨fun p hp => h2.1 _ (p1 _ hp), h2.2⟩
      · have h2 := k.kind i _ e
        exact ⟨fun p hp => h2.1 _ (p1 _ hp), .inr h2.2⟩
    | dead =>
      have h2 := k.kind i _ h1.2
      exact ⟨fun p hp => h2.1 _ (h1.1 _ hp), h2.2⟩
  foreign := fun b hb hn => by
    obtain ⟨e1, e2⟩ := h.foreign b hb hn
    obtain ⟨f1, f2⟩ := k.foreign b (Nat.lt_of_lt_of_le hb h.size) (fun ho => by
      obtain ⟨i, c, hi, hp⟩ := ho
      rcases h.blocks i (b, c) hi hp with ⟨h1, c', h2⟩ | h1
      · exact hn ⟨i, c', h1, h2⟩
      · simp only at h1; omega)
    exact ⟨f1.trans e1, fun o => (f2 o).trans (e2 o)⟩
  blocks := fun i p hi hp => by
    rcases k.blocks i p hi hp with ⟨h1, c, h2⟩ | h1
    · rcases h.blocks i (p.1, c) h1 h2 with h3 | h3
      · exact .inl h3
      · exact .inr h3
    · exact .inr (Nat.le_trans h.size h1)
  age := fun m hm hl => k.age m hm (h.age m hm hl)
  os := k.os.trans h.os
  tape := k.tape.trans h.tape
  output := k.output.trans h.output
end Go.Proofs.Kh
