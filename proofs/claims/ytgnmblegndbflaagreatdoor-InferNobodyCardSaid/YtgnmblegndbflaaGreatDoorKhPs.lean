/- slices.Clone does what is said of it. -/
import Derived.Test.YtgnmblegndbflaaGreatDoorKhPr
namespace Go.Proofs.Kh
set_option linter.all false
set_option linter.unusedVariables false
set_option linter.unusedSimpArgs false
open Go

section
variable {P : Program} {G : Gh} {st : St} {w : World}

theorem no_call_ok : CallOK P (fun _ _ _ => none) := fun _ _ _ _ _ _ _ _ _ h => by cases h
theorem no_call_plain : CallPlain P (fun _ _ _ => none) := fun _ _ _ _ h => by cases h

theorem wp_one {o : Oper} {v : Value} {a : Act} {id : Nat} {Q : Exit → Act → World → Prop} (hg : o.guard = none) (he : (execOp a.eval o).run P w = .ok (.value v) w) (h : Q .normal (a.put o.dst v) w) : (Code.region id #[o] false).wp P Q a w := by
  refine wp_region ?_
  show wpOps P #[o] _ (List.range 1) a w
  rw [show List.range 1 = [0] from rfl]
  simp only [wpOps]
  have hw0 : (#[o] : Array Oper)[0]? = some o := rfl
  simp only [hw0]
  have hwant : Region.wanted o (yielded #[o] a.tmps) = true := by unfold Region.wanted; rw [hg]
  rw [hwant]
  simp only [if_true]
  refine .inl ?_
  unfold Oper.wp
  rw [he]
  exact h

theorem wp_two {o o' : Oper} {v v' : Value} {a : Act} {id : Nat} {Q : Exit → Act → World → Prop} (hg : o.guard = none) (hg' : o'.guard = none) (he : (execOp a.eval o).run P w = .ok (.value v) w) (he' : (execOp (a.put o.dst v).eval o').run P w = .ok (.value v') w)
    (h : Q .normal ((a.put o.dst v).put o'.dst v') w) : (Code.region id #[o, o'] false).wp P Q a w := by
  refine wp_region ?_
  show wpOps P #[o, o'] _ (List.range 2) a w
  rw [show List.range 2 = [0, 1] from rfl]
  simp only [wpOps]
  have hw0 : (#[o, o'] : Array Oper)[0]? = some o := rfl
  have hw1 : (#[o, o'] : Array Oper)[1]? = some o' := rfl
  simp only [hw0, hw1]
  have hwant : ∀ t, Region.wanted o (yielded #[o, o'] t) = true := fun t => by unfold Region.wanted; rw [hg]
  have hwant' : ∀ t, Region.wanted o' (yielded #[o, o'] t) = true := fun t => by unfold Region.wanted; rw [hg']
  rw [hwant]
  simp only [if_true]
  refine .inl ?_
  unfold Oper.wp
  rw [he]
  show _
  simp only [Oper.upon]
  rw [hwant']
  simp only [if_true]
  refine .inl ?_
  rw [he']
  exact h

theorem clone_sound (hm : P.follows .mixedOrders = true) {f : FuncId} {p : Prim} (hf : CloneFits P f p) {xs : List AV} {r : ARes} {st' : St} {tm : Nat} {vs : Array Value} (hrun : p.run xs st = some (r, st')) (inv : Inv G st w) (htm : tm ≤ st.length) (hl : vs.size = xs.length)
    (hr : ∀ (k : Nat) (v : Value) (x : AV), vs[k]? = some v → xs[k]? = some x → RelV G st v x) : Calls P f vs w (Came tm G st w r st') := by
  unfold CloneFits cloneForm at hf
  split at hf
  · rename_i fn f1
    split at hf
    · rename_i c f2
      split at hf
      · rename_i t rest f3
        split at hf
        · rename_i e b hte hnorm hres
          split at hf
          · rename_i hN
            injection hf with hf; subst hf
            obtain ⟨i0, i1, i2, o0, o1, o2, o3, u, rfl, g0, g1, g2, g3, d0, d1, d2, d3, e0, e1, e2, e3⟩ := cloneOf_inv f3
            have hres' : fn.results = [ResultVar.tmp 2].toArray := by rw [← hres]
            unfold Prim.run at hrun
            split at hrun
            · rename_i x
              have hx : ∃ ys, elems st x = some ys ∧ (ys = [] ∨ (sized p.sz ys && decide (ys.length * p.bytes ≤ 140737488355328) && decide (ys.length ≤ 9223372036854775807)) = true) ∧
                  ((ys = [] ∧ r = .ret (.tight []) ∧ st' = st) ∨ (ys ≠ [] ∧ r = .ret (.row st.length ys.length) ∧ st' = st ++ [.row false p.sz ys])) := by
                split at hrun
                · rename_i h0
                  obtain ⟨rfl, rfl⟩ := val_inj hrun
                  exact ⟨[], h0, .inl rfl, .inl ⟨rfl, rfl, rfl⟩⟩
                · rename_i y ys h0
                  split at hrun
                  · rename_i hs
                    obtain ⟨rfl, rfl⟩ := val_inj hrun
                    exact ⟨y :: ys, h0, .inr hs, .inr ⟨by simp, rfl, rfl⟩⟩
                  · cases hrun
                · cases hrun
              obtain ⟨ys, hel, hok, hout⟩ := hx
              refine calls_of_wp f1 f2 ?_
              have fr0 := fr_entry (fn := fn) inv hl (by simp; omega) hr
              refine wp_seq (wp_one (v := .slice none 0 0) e0 (by unfold execOp; rw [g0]; rfl) ?_)
              rw [d0]
              have fr1 := fr0.put (some 2) (fun k hk => by injection hk with hk; omega) RelV.nil inv (Ext.refl _ _ _ _)
              obtain ⟨v, hv0, hrel⟩ := fr1.env 0 x (by simp [putO, lyPut, params, Env.get, Ly.get])
              refine wp_seq (wp_seq ?_)
              have hev0 : ∀ a : Act, a.tmps[0]? = some v → a.eval (.tmp 0) = v := fun a h => by simp [Act.eval, Array.getD_eq_getD_getElem?, h]
              have fr2 := fr1.put (some 3) (fun k hk => by injection hk with hk; omega) hrel inv (Ext.refl _ _ _ _)
              have res : ∀ (a : Act) (u : Value), a.tmps[2]? = some u → (results fn a.tmps).run P w = .ok u w := fun a u h =>
                run_results (P := P) (w := w) (fn := fn) (tmps := a.tmps) [.tmp 2] [u] hres' (by simp) rfl fun k r v hr hv => by
                  cases k with
                  | zero => simp at hr hv; subst hr; subst hv; simp [rvRun, Array.getD_eq_getD_getElem?, h]
                  | succ k => simp at hr
              have hslot3 : ∀ (b : Act), b.tmps.size = fn.ntmps → (b.put (some 3) v).eval (.tmp 3) = v := fun b hb => by
                simp only [Act.put, Act.eval, Array.getD_eq_getD_getElem?]
                rw [Array.getElem?_setIfInBounds_self_of_lt (by omega)]
                rfl
              have hslot4 : ∀ (b : Act) (q : Bool), b.tmps.size = fn.ntmps → (b.put (some 4) (.bool q)).eval (.tmp 4) = .bool q := fun b q hb => by
                simp only [Act.put, Act.eval, Array.getD_eq_getD_getElem?]
                rw [Array.getElem?_setIfInBounds_self_of_lt (by omega)]
                rfl
              have hput2 : ∀ (b : Act) (u : Value), b.tmps.size = fn.ntmps → (b.put (some 2) u).tmps[2]? = some u := fun b u hb => by
                simp only [Act.put]
                exact Array.getElem?_setIfInBounds_self_of_lt (by omega)
              have heq : ∀ (b : Act) (a : Option Addr) (n k : Nat), v = .slice a n k → b.tmps.size = fn.ntmps → (execOp (b.put (some 3) v).eval o2).run P w = .ok (.value (.bool a.isNone)) w := by
                intro b a n k hv hb
                have h3 := hslot3 b hb
                have hn : (b.put (some 3) v).eval (.const (.slice none 0 0)) = .slice none 0 0 := rfl
                unfold execOp
                rw [g2]
                simp only [h3, hn]
                rw [hv]
                simp [eqGuard, Go.binOp, run_equal_slice_nil w t e a n k hte]
              rcases slAt inv hrel hel with ⟨hvn, hys⟩ | hS
              · -- nil
                subst hys
                refine wp_two e1 e2 (by unfold execOp; rw [g1]; simp only [hev0 _ hv0]; rfl) (by rw [d1]; exact heq _ none 0 0 hvn fr1.size) ?_
                rw [d1, d2]
                have fr3 := fr2.put (some 4) (fun k hk => by injection hk with hk; omega) (RelV.pd (.bool true) (.bool true) (.bool true)) inv (Ext.refl _ _ _ _)
                refine wp_cond_true (hslot4 _ true fr2.size) (wp_seq (wp_one (v := .slice none 0 0) e3 (by unfold execOp; rw [g3]; rfl) ?_))
                rw [d3]
                have fr4 := fr3.put (some 2) (fun k hk => by injection hk with hk; omega) RelV.nil inv (Ext.refl _ _ _ _)
                refine wp_ret ?_
                refine ⟨fr4.defers, .slice none 0 0, res _ _ (hput2 _ _ fr3.size), ?_⟩
                rcases hout with ⟨_, rfl, rfl⟩ | ⟨hne, _⟩
                · exact ⟨_, G, rfl, .tight none 0 [] .slnil, inv, Ext.refl _ _ _ _⟩
                · exact absurd rfl hne
              · -- a slice
                obtain ⟨S⟩ := hS
                refine wp_two e1 e2 (by unfold execOp; rw [g1]; simp only [hev0 _ hv0]; rfl) (by rw [d1]; exact heq _ (some _) _ _ S.hv fr1.size) ?_
                rw [d1, d2]
                have fr3 := fr2.put (some 4) (fun k hk => by injection hk with hk; omega) (RelV.pd (.bool false) (.bool false) (.bool false)) inv (Ext.refl _ _ _ _)
                refine wp_cond_false (hslot4 _ false fr2.size) (wp_skip ?_)
                obtain ⟨ly, hb1, hb2⟩ := cloneBody_run (call := fun _ _ _ => none) (sz := p.sz) (bytes := p.bytes) (m := st.length) hel hok
                refine code_sound no_call_ok no_call_plain hm rest _ hnorm _ .ret _ _ _ _ _ _ _ fr3 hb1 fun G1 a1 w1 fr5 => ?_
                rcases hout with ⟨hys, rfl, rfl⟩ | ⟨hne, rfl, rfl⟩
                · subst hys
                  have h2 : Ly.get ly 2 = some (.tight []) := by rcases hb2 with ⟨_, h⟩ | ⟨h, _⟩ <;> first | exact h | exact absurd rfl h
                  obtain ⟨u2, hu2, hrel2⟩ := fr5.env 2 _ h2
                  refine ⟨fr5.defers, u2, ?_, u2, G1, rfl, hrel2, by simpa using fr5.inv, (by simpa using fr5.ext.weaken htm)⟩
                  exact run_results (P := P) (w := w1) (fn := fn) (tmps := a1.tmps) [.tmp 2] [u2] hres' (by simp) rfl fun k r v hr hv => by
                    cases k with
                    | zero => simp at hr hv; subst hr; subst hv; simp [rvRun, Array.getD_eq_getD_getElem?, hu2]
                    | succ k => simp at hr
                · have h2 : Ly.get ly 2 = some (.row st.length ys.length) := by rcases hb2 with ⟨h, _⟩ | ⟨_, h⟩ <;> first | exact h | exact absurd h hne
                  obtain ⟨u2, hu2, hrel2⟩ := fr5.env 2 _ h2
                  have hi := fr5.inv
                  have hx5 := fr5.ext
                  rw [if_neg hne] at hi hx5 hrel2
                  refine ⟨fr5.defers, u2, ?_, u2, G1, rfl, hrel2, hi, hx5.weaken htm⟩
                  exact run_results (P := P) (w := w1) (fn := fn) (tmps := a1.tmps) [.tmp 2] [u2] hres' (by simp) rfl fun k r v hr hv => by
                    cases k with
                    | zero => simp at hr hv; subst hr; subst hv; simp [rvRun, Array.getD_eq_getD_getElem?, hu2]
                    | succ k => simp at hr
            · cases hrun
          · cases hf
        · cases hf
      · cases hf
    · cases hf
  · cases hf

theorem clone_plain {f : FuncId} {p : Prim} (hf : CloneFits P f p) : plainF P f = true := by
  unfold CloneFits cloneForm at hf
  split at hf
  · rename_i fn f1
    split at hf
    · rename_i c f2
      split at hf
      · split at hf
        · split at hf
          · rename_i hN
            unfold plainF
            rw [f1]
            simp [f2, hN.2]
          · cases hf
        · cases hf
      · cases hf
    · cases hf
  · cases hf

theorem primOf_ok (hm : P.follows .mixedOrders = true) {l : List (FuncId × Prim)} (hl : ∀ x, x ∈ l → CloneFits P x.1 x.2) : CallOK P (primOf l) ∧ CallPlain P (primOf l) := by
  have key : ∀ f p, l.lookup f = some p → CloneFits P f p := by
    intro f p h
    induction l with
    | nil => cases h
    | cons y r ih =>
      obtain ⟨k, q⟩ := y
      simp only [List.lookup] at h
      split at h
      · rename_i he
        injection h with h; subst h
        have : f = k := by simpa using he
        subst this
        exact hl (f, q) (by simp)
      · exact ih (fun x hx => hl x (by simp [hx])) h
  refine ⟨fun f xs st r st' tm G w vs h inv htm hlen hr _ => ?_, fun f xs st r h => ?_⟩
  · unfold primOf at h
    split at h
    · rename_i p hp
      exact clone_sound hm (key f p hp) h inv htm hlen hr
    · cases h
  · unfold primOf at h
    split at h
    · rename_i p hp
      exact clone_plain (key f p hp)
    · cases h
end
end Go.Proofs.Kh
