/- Each of the machine's operations does what the model's does: all of them. -/
import Derived.Test.YtgnmblegndbflaaGreatDoorKhR
namespace Go.Proofs.Kh
set_option linter.all false
set_option linter.unusedVariables false
set_option linter.unusedSimpArgs false
open Go
section
variable {P : Program} {G : Gh} {st : St} {w : World} {o : Oper} {a : Act} {next : Act → World → Prop} {Q : Exit → Act → World → Prop} {call : CallF} {ly : Ly} {ad : List (Nat × Nat × Bool)} {br : Bool} {ao : AOp} {r : ARes} {st' : St}

theorem val_inj {x : AV} {s : St} (h : val x s = some (r, st')) : r = .ret x ∧ s = st' := by
  simp only [val, Option.some.injEq, Prod.mk.injEq] at h
  exact ⟨h.1.symm, h.2⟩

theorem s_mov {y : Operand} {p : Opd} (he : EnvRel G st a ly) (inv : Inv G st w) (hop : execOp a.eval o = pure (Next.value (a.eval y))) (hy : opd y = some p) (hrun : AOp.run call ly st (.mov p) = some (r, st'))
    (hp : Post (Ly.top ly) G st w r st' o a next Q) : o.wp P a w next Q := by
  simp only [AOp.run] at hrun
  split at hrun
  · rename_i x hx
    obtain ⟨rfl, rfl⟩ := val_inj hrun
    exact wp_pure hp hop (ev_rel he hy hx) inv
  · cases hrun

theorem s_assign {y : Operand} (he : EnvRel G st a ly) (inv : Inv G st w) (htm : Ly.top ly ≤ st.length) (ho : o.op = .assign y) (hn : normOp P ad br o = some ao) (hrun : ao.run call ly st = some (r, st'))
    (hp : Post (Ly.top ly) G st w r st' o a next Q) : o.wp P a w next Q := by
  have hop : execOp a.eval o = pure (Next.value (a.eval y)) := by unfold execOp; rw [ho]
  unfold normOp at hn
  rw [ho] at hn
  simp only at hn
  split at hn
  · injection hn with hn; subst hn
    simp only [AOp.run] at hrun
    obtain ⟨rfl, rfl⟩ := val_inj hrun
    obtain ⟨G', i1, i2, i3⟩ := push_empty (tm := Ly.top ly) inv htm _ _
    exact wp_yields hp (s := pure (.slice none 0 0)) (by rw [hop]; rfl) ⟨_, G', w, rfl, i3, i1, i2⟩
  · split at hn
    · rename_i q hq
      injection hn with hn; subst hn
      exact s_mov he inv hop hq hrun hp
    · cases hn

theorem s_pick {c x y : Operand} (he : EnvRel G st a ly) (inv : Inv G st w) (ho : o.op = .pick c x y) (hn : normOp P ad br o = some ao) (hrun : ao.run call ly st = some (r, st'))
    (hp : Post (Ly.top ly) G st w r st' o a next Q) : o.wp P a w next Q := by
  unfold normOp at hn
  rw [ho] at hn
  simp only at hn
  split at hn
  · rename_i c' x' y' hc hx hy
    injection hn with hn; subst hn
    simp only [AOp.run] at hrun
    split at hrun
    · rename_i t ht
      have h1 := (ev_rel he hc ht).bool_inv
      split at hrun
      · rename_i z hz
        obtain ⟨rfl, rfl⟩ := val_inj hrun
        refine wp_yields hp (s := pure (if t then a.eval x else a.eval y)) (by unfold execOp; rw [ho]; simp [h1, asBool]) (.same rfl ?_ inv)
        cases t
        · exact ev_rel he hy hz
        · exact ev_rel he hx hz
      · cases hrun
    · cases hrun
  · cases hn

theorem s_alloc {t : TypeId} (inv : Inv G st w) (htm : Ly.top ly ≤ st.length) (ho : o.op = .alloc t) (hn : normOp P ad br o = some ao) (hrun : ao.run call ly st = some (r, st'))
    (hp : Post (Ly.top ly) G st w r st' o a next Q) : o.wp P a w next Q := by
  unfold normOp at hn
  rw [ho] at hn
  simp only at hn
  split at hn
  · rename_i zs hz
    split at hn
    · rename_i hg
      injection hn with hn; subst hn
      simp only [AOp.run] at hrun
      obtain ⟨rfl, rfl⟩ := val_inj hrun
      obtain ⟨i, z, h1, h2, h3, h4⟩ := zeroOf_some hz
      obtain ⟨e1, e2, e3⟩ := pdVs_rel G.M _ _ h3
      obtain ⟨G1, i1, x1, l1, r1⟩ := adopt_ok (tm := Ly.top ly) h3 ad (zs.map .pd) inv htm hg (by simp) (fun k v c hv hc => by
        simp only [List.getElem?_map, Option.map_eq_some_iff] at hc
        obtain ⟨p, hp, rfl⟩ := hc
        exact .pd _ _ (e3 k v p hv hp))
      have hop : execOp a.eval o = (do pure (Next.value (← Instr.alloc t true (.tuple #[])))) := by unfold execOp; rw [ho]
      refine wp_yields (hp.after x1) hop (alloc_sound i1 (Nat.le_trans htm x1.len) h1 h2 h3 l1 (fun k v c hv hc => r1 k v c (by simpa using hv) hc))
    · cases hn
  · cases hn

theorem s_box {t : TypeId} {y : Operand} (he : EnvRel G st a ly) (inv : Inv G st w) (htm : Ly.top ly ≤ st.length) (ho : o.op = .box t y) (hn : normOp P ad br o = some ao) (hrun : ao.run call ly st = some (r, st'))
    (hp : Post (Ly.top ly) G st w r st' o a next Q) : o.wp P a w next Q := by
  unfold normOp at hn
  rw [ho] at hn
  simp only at hn
  split at hn
  · rename_i n x hs hx
    injection hn with hn; subst hn
    simp only [AOp.run] at hrun
    split at hrun
    · rename_i z hz
      split at hrun
      · rename_i cs hcs
        split at hrun
        · obtain ⟨rfl, rfl⟩ := val_inj hrun
          exact wp_yields hp (by unfold execOp; rw [ho]) (box_sound inv htm (ev_rel he hx hz) hcs)
        · cases hrun
      · cases hrun
    · cases hrun
  · cases hn

theorem evP_at : ∀ (ps : List (Nat × Nat × Opd)) (qs : List (Nat × Nat × AV)), evP ly ps = some qs → qs.length = ps.length ∧ ∀ (k : Nat) (x y : Nat) (p : Opd), ps[k]? = some (x, y, p) → ∃ z, qs[k]? = some (x, y, z) ∧ p.ev ly = some z
  | [], qs, h => by simp only [evP, Option.some.injEq] at h; subst h; simp
  | (b, c, p) :: ps, qs, h => by
    simp only [evP] at h
    split at h
    · rename_i x xs hx hxs
      injection h with h; subst h
      obtain ⟨e1, e2⟩ := evP_at ps xs hxs
      refine ⟨by simp [e1], fun k x' y' p' hk => ?_⟩
      cases k with
      | zero => simp at hk; obtain ⟨rfl, rfl, rfl⟩ := hk; exact ⟨x, rfl, hx⟩
      | succ k => simp at hk; obtain ⟨z, h1, h2⟩ := e2 k x' y' p' hk; exact ⟨z, by simpa using h1, h2⟩
    · cases h

theorem partsOf_at {t : TypeId} : ∀ (ps : List (Nat × Operand)) (qs : List (Nat × Nat × Opd)), partsOf P t ps = some qs → qs.length = ps.length ∧ ∀ (k i : Nat) (y : Operand), ps[k]? = some (i, y) → ∃ x n p, qs[k]? = some (x, n, p) ∧ placeOf P t i = some (x, n) ∧ opd y = some p
  | [], qs, h => by simp only [partsOf, Option.some.injEq] at h; subst h; simp
  | (i, y) :: ps, qs, h => by
    simp only [partsOf] at h
    split at h
    · rename_i b c x xs h1 h2 h3
      injection h with h; subst h
      obtain ⟨e1, e2⟩ := partsOf_at ps xs h3
      refine ⟨by simp [e1], fun k j z hk => ?_⟩
      cases k with
      | zero => simp at hk; obtain ⟨rfl, rfl⟩ := hk; exact ⟨b, c, x, rfl, h1, h2⟩
      | succ k => simp at hk; obtain ⟨p, q, s, f1, f2, f3⟩ := e2 k j z hk; exact ⟨p, q, s, by simpa using f1, f2, f3⟩
    · cases h

theorem places_all : ∀ (fs : List Field), (fs.all fun f => (sizeT P f.type).isSome) = true → ∃ ps, fs.mapM (fun f => (P.info? f.type).map fun i => (f.offset, i.size)) = some ps ∧ ps.length = fs.length ∧ ∀ (k : Nat) (f : Field) (n : Nat), fs[k]? = some f → sizeT P f.type = some n → ps[k]? = some (f.offset, n)
  | [], _ => ⟨[], rfl, rfl, fun k f n h => by simp at h⟩
  | f :: fs, h => by
    simp only [List.all_cons, Bool.and_eq_true] at h
    obtain ⟨ps, h1, h2, h3⟩ := places_all fs h.2
    obtain ⟨n, hn⟩ := Option.isSome_iff_exists.1 h.1
    obtain ⟨i, hi, hs⟩ := sizeT_some hn
    refine ⟨(f.offset, n) :: ps, by simp [List.mapM_cons, hi, h1, hs], by simp [h2], fun k g m hk hm => ?_⟩
    cases k with
    | zero => simp at hk; subst hk; rw [hn] at hm; injection hm with hm; subst hm; rfl
    | succ k => simp at hk; simpa using h3 k g m hk hm

theorem s_build {t : TypeId} {parts : Array (Nat × Operand)} (he : EnvRel G st a ly) (inv : Inv G st w) (ho : o.op = .build t parts) (hn : normOp P ad br o = some ao) (hrun : ao.run call ly st = some (r, st'))
    (hp : Post (Ly.top ly) G st w r st' o a next Q) : o.wp P a w next Q := by
  unfold normOp at hn
  rw [ho] at hn
  simp only at hn
  split at hn
  · rename_i zs ps hz hps hf
    injection hn with hn; subst hn
    simp only [AOp.run] at hrun
    split at hrun
    · rename_i qs hqs
      split at hrun
      · rename_i cs hcs
        obtain ⟨rfl, rfl⟩ := val_inj hrun
        obtain ⟨i, z, h1, h2, h3, h4⟩ := zeroOf_some hz
        obtain ⟨e1, e2, e3⟩ := pdVs_rel G.M _ _ h3
        obtain ⟨p1, p2⟩ := partsOf_at parts.toList ps hps
        obtain ⟨q1, q2⟩ := evP_at ps qs hqs
        have key : ∀ (place : Nat → Option (Nat × Nat)), (∀ i x n, placeOf P t i = some (x, n) → place i = some (x, n)) →
            ∃ cells', Instr.fill place z.cells (parts.map fun (i, x) => (i, a.eval x)).toList = some cells' ∧ RelV G st (.agg cells') (.agg cs) := by
          intro place hpl
          refine fill_rel _ qs z.cells (zs.map .pd) cs (by simp at p1 ⊢; omega) (fun k i v off n y hk hq => ?_) (by simp at e1 ⊢; omega) (fun k v hv => pdVs_one (M := G.M) h3 k v (by simpa using hv))
            (fun k v c hv hc => ?_) hcs
          · simp only [Array.toList_map, List.getElem?_map, Option.map_eq_some_iff] at hk
            obtain ⟨⟨j, y'⟩, hk, hk2⟩ := hk
            simp only [Prod.mk.injEq] at hk2
            obtain ⟨rfl, rfl⟩ := hk2
            obtain ⟨x, m, p, f1, f2, f3⟩ := p2 k j y' hk
            obtain ⟨z', g1, g2⟩ := q2 k x m p f1
            rw [hq] at g1; injection g1 with g1; simp only [Prod.mk.injEq] at g1
            obtain ⟨rfl, rfl, rfl⟩ := g1
            exact ⟨hpl _ _ _ f2, ev_rel he f3 g2⟩
          · simp only [List.getElem?_map, Option.map_eq_some_iff] at hc
            obtain ⟨p, hp', rfl⟩ := hc
            exact .pd _ _ (e3 k v p (by simpa using hv) hp')
        have hrunb : ∃ cells', (Instr.build t (parts.map fun (i, x) => (i, a.eval x))).run P w = .ok (.agg cells') w ∧ RelV G st (.agg cells') (.agg cs) := by
          unfold fieldsOK at hf
          cases hu : P.underlying t with
          | none => rw [hu] at hf; cases hf
          | some d =>
            rw [hu] at hf
            cases d <;> first | (simp at hf; done) | skip
            · rename_i n e
              cases hse : sizeT P e with
              | none => simp [hse] at hf
              | some s =>
                obtain ⟨ie, hie, hs⟩ := sizeT_some hse
                obtain ⟨cells', k1, k2⟩ := key (fun i => some (i * ie.size, ie.size)) (fun i x n hpl => by
                  unfold placeOf at hpl; rw [hu] at hpl; simp only [hse, Option.some.injEq, Prod.mk.injEq] at hpl
                  show some (i * ie.size, ie.size) = _
                  rw [hs, hpl.1, hpl.2])
                refine ⟨cells', run_build w t _ cells' ?_, k2⟩
                unfold Program.built
                simp only [h1, hu, h2, hie]
                exact k1
            · rename_i fs
              obtain ⟨pl, l1, l2, l3⟩ := places_all fs.toList hf
              obtain ⟨cells', k1, k2⟩ := key (pl.toArray[·]?) (fun i x n hpl => by
                unfold placeOf at hpl; rw [hu] at hpl; simp only at hpl
                split at hpl
                · rename_i f hfi
                  split at hpl
                  · rename_i m hm
                    injection hpl with hpl
                    rw [← hpl]
                    simpa using l3 i f m (by simpa using hfi) hm
                  · cases hpl
                · cases hpl)
              refine ⟨cells', run_build w t _ cells' ?_, k2⟩
              unfold Program.built
              simp only [h1, hu, h2, l1]
              exact k1
        obtain ⟨cells', k1, k2⟩ := hrunb
        exact wp_yields hp (by unfold execOp; rw [ho]) (.same k1 (mkAgg_rel k2) inv)
      · cases hrun
    · cases hrun
  · cases hn
end
end Go.Proofs.Kh
