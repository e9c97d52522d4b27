/- What stays as it is, when one thing turns, or one more is laid. -/
import Derived.Test.YtgnmblegndbflaaGreatDoorKhC
namespace Go.Proofs.Kh
set_option linter.all false
set_option linter.unusedVariables false
set_option linter.unusedSimpArgs false
open Go

mutual
theorem AV.und_mono {m n : Nat} (h : m ≤ n) : ∀ x : AV, x.und m = true → x.und n = true
  | .pd _, _ => rfl
  | .nil, _ => rfl
  | .tight _, _ => rfl
  | .row _ _, hx => by simp only [AV.und, decide_eq_true_eq] at *; omega
  | .rp _ _ _ _, hx => by simp only [AV.und, decide_eq_true_eq] at *; omega
  | .ptr _ _, hx => by simp only [AV.und, decide_eq_true_eq] at *; omega
  | .clo _ fs cs, hx => by
    simp only [AV.und, Bool.and_eq_true] at *
    exact ⟨AV.undL_mono h fs hx.1, AV.undL_mono h cs hx.2⟩
  | .agg cs, hx => by simp only [AV.und] at *; exact AV.undL_mono h cs hx
  | .tup cs, hx => by simp only [AV.und] at *; exact AV.undL_mono h cs hx
  | .bot, _ => rfl
theorem AV.undL_mono {m n : Nat} (h : m ≤ n) : ∀ xs : List AV, AV.undL m xs = true → AV.undL n xs = true
  | [], _ => rfl
  | x :: xs, hx => by
    simp only [AV.undL, Bool.and_eq_true] at *
    exact ⟨AV.und_mono h x hx.1, AV.undL_mono h xs hx.2⟩
end

theorem undL_iff (m : Nat) : ∀ xs : List AV, AV.undL m xs = true ↔ ∀ x, x ∈ xs → x.und m = true
  | [] => by simp [AV.undL]
  | x :: xs => by simp [AV.undL, undL_iff m xs]

/-- What is related leads to what there is. -/
theorem RelV.und {G : Gh} {st : St} {v : Value} {x : AV} (h : RelV G st v x) : x.und st.length = true := by
  induction h with
  | pd v x hx => rfl
  | nil => rfl
  | tight a n xs hx => rfl
  | row id n v hi ho hx => simpa [AV.und] using hi
  | rp id n i off v hi ho hx => simpa [AV.und] using hi
  | ptr id off b c hi hr hx => simpa [AV.und] using hi
  | clo f us vs fs cs hk hl hq hr ih1 ih2 =>
    simp only [AV.und, Bool.and_eq_true, undL_iff]
    refine ⟨fun x hx => ?_, fun x hx => ?_⟩
    · obtain ⟨k, hk', e⟩ := List.getElem_of_mem hx
      have hk2 : k < us.size := by omega
      exact ih1 k us[k] x (by simp [hk2]) (by simp [hk', e])
    · obtain ⟨k, hk', e⟩ := List.getElem_of_mem hx
      have hk2 : k < vs.size := by omega
      exact ih2 k vs[k] x (by simp [hk2]) (by simp [hk', e])
  | agg vs cs hl ho hr ih =>
    simp only [AV.und, undL_iff]
    intro x hx
    obtain ⟨k, hk', e⟩ := List.getElem_of_mem hx
    have hk2 : k < vs.size := by omega
    exact ih k vs[k] x (by simp [hk2]) (by simp [hk', e])
  | tup vs cs hl hr ih =>
    simp only [AV.und, undL_iff]
    intro x hx
    obtain ⟨k, hk', e⟩ := List.getElem_of_mem hx
    have hk2 : k < vs.size := by omega
    exact ih k vs[k] x (by simp [hk2]) (by simp [hk', e])
  | bot v => rfl

theorem RelV.clip {G : Gh} {st : St} {v : Value} {x : AV} (h : RelV G st v x) (m : Nat) : RelV G st v (x.clip m) := by
  unfold AV.clip
  split
  · exact h
  · exact .bot v

theorem AV.clip_und (m : Nat) (x : AV) : (x.clip m).und m = true := by
  unfold AV.clip
  split
  · assumption
  · rfl

/-- One thing as it was, in another world. -/
theorem ObjOK.move {tm : Nat} {G : Gh} {st : St} {w : World} {G' : Gh} {st' : St} {w' : World} {id : Nat} {ob : Obj} (h : ObjOK G st w id ob) (e : Ext tm G st w G' st' w')
    (hp : G'.ps id = G.ps id) (hb : ∀ p, G.ps id = some p → w'.heap[p.1]? = w.heap[p.1]? ∧ ∀ o, G'.M p.1 o = G.M p.1 o) : ObjOK G' st' w' id ob := by
  cases ob with
  | var cells =>
    obtain ⟨h1, h2⟩ := h
    refine ⟨fun c hc => AV.und_mono e.len c (h1 c hc), ?_⟩
    rcases h2 with h2 | ⟨b, c, cur, T, e1, e2, e3, e4, e5, e6⟩
    · exact .inl (hp.trans h2)
    · obtain ⟨f1, f2⟩ := hb _ e1
      exact .inr ⟨b, c, cur, T, hp.trans e1, f1.trans e2, e3, e4, fun k v c hv hc => (e5 k v c hv hc).ext e, fun o => (f2 o).trans (e6 o)⟩
  | row mt sz xs =>
    obtain ⟨h1, h2, h3⟩ := h
    refine ⟨h1, h2, ?_⟩
    rcases h3 with ⟨h3, h4⟩ | ⟨g, cap, cur, T, fr, e1, e2, ef, e3, e4, e5, e6, e7, e8⟩
    · exact .inl ⟨hp.trans h3, h4⟩
    · obtain ⟨f1, f2⟩ := hb _ e1
      refine .inr ⟨g, cap, cur, T, fr, hp.trans e1, f1.trans e2, ef, e3, e4, e5, e6, fun k v c hv hc => (e7 k v c hv hc).mono e.mem, ?_⟩
      rcases e8 with ⟨a1, a2⟩ | ⟨a1, a2, a3⟩
      · exact .inl ⟨a1, fun o => (f2 o).trans (a2 o)⟩
      · exact .inr ⟨a1, fun o ho => (f2 o).trans (a2 o ho), fun o ho => (f2 o).trans (a3 o ho)⟩
  | iter s pos =>
    obtain ⟨b, c, e1, e2⟩ := h
    obtain ⟨f1, f2⟩ := hb _ e1
    exact ⟨b, c, hp.trans e1, f1.trans e2⟩
  | dead => trivial

theorem Kept.same {G G' : Gh} {st' : St} {i : Nat} {ob : Obj} (h : st'[i]? = some ob) (hp : G'.ps i = G.ps i) : Kept G G' st' i ob := by
  cases ob with
  | var c => exact ⟨fun p e => hp.trans e, .inl ⟨c, h⟩⟩
  | row mt sz xs => exact .inl ⟨mt, xs, h, Nat.le_refl _, fun _ => hp⟩
  | iter s p => exact ⟨fun p e => hp.trans e, .inl ⟨s, p, h⟩⟩
  | dead => exact ⟨fun p e => hp.trans e, h⟩

/-- One thing turns; all else stays. -/
theorem turn {tm : Nat} {G : Gh} {st : St} {w : World} (inv : Inv G st w) {id : Nat} {ob ob' : Obj} (hid : st[id]? = some ob) {G' : Gh} {w' : World}
    (hps : ∀ j, j ≠ id → G'.ps j = G.ps j) (hle : Mem.le G.M G'.M) (hsz : w.heap.size ≤ w'.heap.size)
    (hoth : ∀ b, b < w.heap.size → (∀ c, G.ps id ≠ some (b, c)) → w'.heap[b]? = w.heap[b]? ∧ ∀ o, G'.M b o = G.M b o)
    (hkept : Kept G G' (st.set id ob') id ob)
    (hnew : ∀ p, G'.ps id = some p → p.1 < w'.heap.size ∧ ((∃ c, G.ps id = some (p.1, c)) ∨ w.heap.size ≤ p.1))
    (hmem : ∀ b o v, G'.M b o = some v → w'.cell? ⟨b, o, none⟩ = some v)
    (hage : ∀ m, m ≤ tm → Low st m → Low (st.set id ob') m)
    (hos : w'.os = w.os) (htape : w'.tape = w.tape) (hout : w'.output = w.output)
    (hobj : Ext tm G st w G' (st.set id ob') w' → ObjOK G' (st.set id ob') w' id ob') :
    Inv G' (st.set id ob') w' ∧ Ext tm G st w G' (st.set id ob') w' := by
  have hlt : id < st.length := (List.getElem?_eq_some_iff.1 hid).1
  have hext : Ext tm G st w G' (st.set id ob') w' := by
    refine ⟨hle, hsz, by simp, ?_, ?_, ?_, hage, hos, htape, hout⟩
    · intro i o ho
      by_cases hi : i = id
      · subst hi; rw [hid] at ho; injection ho with ho; subst ho; exact hkept
      · exact Kept.same (by rw [List.getElem?_set_ne (Ne.symm hi)]; exact ho) (hps i hi)
    · intro b hb hn
      exact hoth b hb (fun c hc => hn ⟨id, c, hlt, hc⟩)
    · intro i p hi hc
      by_cases h : i = id
      · subst h
        rcases (hnew _ hc).2 with ⟨c', h1⟩ | h1
        · exact .inl ⟨hlt, c', h1⟩
        · exact .inr h1
      · rw [hps i h] at hc
        exact .inl ⟨by simpa using hi, p.2, hc⟩
  refine ⟨⟨hmem, ?_, ?_, ?_⟩, hext⟩
  · intro i o ho
    by_cases h : i = id
    · subst h
      rw [List.getElem?_set_self hlt] at ho; injection ho with ho; subst ho
      exact hobj hext
    · have ho' : st[i]? = some o := by rwa [List.getElem?_set_ne (Ne.symm h)] at ho
      have hi : i < st.length := (List.getElem?_eq_some_iff.1 ho').1
      refine (inv.objs i o ho').move hext (hps i h) (fun p hp => ?_)
      exact hoth p.1 (inv.lt i p hi hp) (fun c hc => h (inv.inj i id p (p.1, c) hi hlt hp hc rfl))
  · intro i j p q hi hj hp hq e
    simp only [List.length_set] at hi hj
    by_cases h1 : i = id
    · by_cases h2 : j = id
      · omega
      · subst h1
        rw [hps j h2] at hq
        rcases (hnew _ hp).2 with ⟨c, hc⟩ | hc
        · exact inv.inj i j (p.1, c) q hi hj hc hq e
        · have := inv.lt j q hj hq; omega
    · by_cases h2 : j = id
      · subst h2
        rw [hps i h1] at hp
        rcases (hnew _ hq).2 with ⟨c, hc⟩ | hc
        · exact inv.inj i j p (q.1, c) hi hj hp hc e
        · have := inv.lt i p hi hp; omega
      · rw [hps i h1] at hp; rw [hps j h2] at hq
        exact inv.inj i j p q hi hj hp hq e
  · intro i p hi hp
    simp only [List.length_set] at hi
    by_cases h : i = id
    · subst h; exact (hnew _ hp).1
    · rw [hps i h] at hp
      exact Nat.lt_of_lt_of_le (inv.lt i p hi hp) hsz

theorem Low.push {st : St} {m : Nat} (h : Low st m) (hm : m ≤ st.length) (ob : Obj) : Low (st ++ [ob]) m := by
  intro i cells hi hs c hc
  rw [List.getElem?_append_left (by omega)] at hs
  exact h i cells hi hs c hc

/-- One thing more is laid; all else stays. -/
theorem more {tm : Nat} {G : Gh} {st : St} {w : World} (inv : Inv G st w) (htm : tm ≤ st.length) {ob : Obj} {w' : World} {G' : Gh}
    (hps : ∀ j, j < st.length → G'.ps j = G.ps j) (hle : Mem.le G.M G'.M) (hsz : w.heap.size ≤ w'.heap.size)
    (hoth : ∀ b, b < w.heap.size → w'.heap[b]? = w.heap[b]? ∧ ∀ o, G'.M b o = G.M b o)
    (hnew : ∀ p, G'.ps st.length = some p → p.1 < w'.heap.size ∧ w.heap.size ≤ p.1)
    (hmem : ∀ b o v, G'.M b o = some v → w'.cell? ⟨b, o, none⟩ = some v)
    (hos : w'.os = w.os) (htape : w'.tape = w.tape) (hout : w'.output = w.output)
    (hobj : Ext tm G st w G' (st ++ [ob]) w' → ObjOK G' (st ++ [ob]) w' st.length ob) :
    Inv G' (st ++ [ob]) w' ∧ Ext tm G st w G' (st ++ [ob]) w' := by
  have hext : Ext tm G st w G' (st ++ [ob]) w' := by
    refine ⟨hle, hsz, by simp, ?_, ?_, ?_, fun m hm hl => hl.push (by omega) ob, hos, htape, hout⟩
    · intro i o ho
      have hi : i < st.length := (List.getElem?_eq_some_iff.1 ho).1
      exact Kept.same (by rw [List.getElem?_append_left hi]; exact ho) (hps i hi)
    · intro b hb _; exact hoth b hb
    · intro i p hi hc
      simp only [List.length_append, List.length_cons, List.length_nil] at hi
      by_cases h : i < st.length
      · rw [hps i h] at hc; exact .inl ⟨h, p.2, hc⟩
      · have : i = st.length := by omega
        subst this; exact .inr (hnew _ hc).2
  refine ⟨⟨hmem, ?_, ?_, ?_⟩, hext⟩
  · intro i o ho
    by_cases h : i < st.length
    · rw [List.getElem?_append_left h] at ho
      exact (inv.objs i o ho).move hext (hps i h) (fun p hp => hoth p.1 (inv.lt i p h hp))
    · have hl := (List.getElem?_eq_some_iff.1 ho).1
      simp only [List.length_append, List.length_cons, List.length_nil] at hl
      have : i = st.length := by omega
      subst this
      simp at ho; subst ho
      exact hobj hext
  · intro i j p q hi hj hp hq e
    simp only [List.length_append, List.length_cons, List.length_nil] at hi hj
    by_cases h1 : i < st.length
    · by_cases h2 : j < st.length
      · rw [hps i h1] at hp; rw [hps j h2] at hq; exact inv.inj i j p q h1 h2 hp hq e
      · have : j = st.length := by omega
        subst this
        rw [hps i h1] at hp
        have := inv.lt i p h1 hp
        have := (hnew _ hq).2
        omega
    · have : i = st.length := by omega
      subst this
      by_cases h2 : j < st.length
      · rw [hps j h2] at hq
        have := inv.lt j q h2 hq
        have := (hnew _ hp).2
        omega
      · omega
  · intro i p hi hp
    simp only [List.length_append, List.length_cons, List.length_nil] at hi
    by_cases h : i < st.length
    · rw [hps i h] at hp; exact Nat.lt_of_lt_of_le (inv.lt i p h hp) hsz
    · have : i = st.length := by omega
      subst this; exact (hnew _ hp).1

/-- Nothing turns but what is bound to hold still, and the world's count. -/
theorem still {tm : Nat} {G : Gh} {st : St} {w : World} (inv : Inv G st w) {w' : World} {M' : Mem} (hle : Mem.le G.M M') (hsz : w.heap.size ≤ w'.heap.size)
    (hoth : ∀ b, b < w.heap.size → w'.heap[b]? = w.heap[b]? ∧ ∀ o, M' b o = G.M b o)
    (hmem : ∀ b o v, M' b o = some v → w'.cell? ⟨b, o, none⟩ = some v) (hos : w'.os = w.os) (htape : w'.tape = w.tape) (hout : w'.output = w.output) :
    Inv ⟨M', G.ps⟩ st w' ∧ Ext tm G st w ⟨M', G.ps⟩ st w' := by
  have hext : Ext tm G st w ⟨M', G.ps⟩ st w' := ⟨hle, hsz, Nat.le_refl _, fun i o ho => Kept.same ho rfl, fun b hb _ => hoth b hb, fun i p hi hp => .inl ⟨hi, p.2, hp⟩, fun _ _ h => h, hos, htape, hout⟩
  exact ⟨⟨hmem, fun i o ho => (inv.objs i o ho).move hext rfl (fun p hp => hoth p.1 (inv.lt i p (List.getElem?_eq_some_iff.1 ho).1 hp)), inv.inj, fun i p hi hp => Nat.lt_of_lt_of_le (inv.lt i p hi hp) hsz⟩, hext⟩
end Go.Proofs.Kh
