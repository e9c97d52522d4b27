/- Each of the machine's operations does what the model's does: all of them, further on. -/
import Derived.Test.YtgnmblegndbflaaGreatDoorKhS
namespace Go.Proofs.Kh
set_option linter.all false
set_option linter.unusedVariables false
set_option linter.unusedSimpArgs false
open Go
section
variable {P : Program} {G : Gh} {st : St} {w : World} {o : Oper} {a : Act} {next : Act → World → Prop} {Q : Exit → Act → World → Prop} {call : CallF} {ly : Ly} {ad : List (Nat × Nat × Bool)} {br : Bool} {ao : AOp} {r : ARes} {st' : St}

theorem s_bsl {t len : Nat} {parts : Array (Nat × Operand)} (he : EnvRel G st a ly) (inv : Inv G st w) (htm : Ly.top ly ≤ st.length) (ho : o.op = .buildSlice t len parts) (hn : normOp P ad br o = some ao) (hrun : ao.run call ly st = some (r, st'))
    (hp : Post (Ly.top ly) G st w r st' o a next Q) : o.wp P a w next Q := by
  unfold normOp at hn
  rw [ho] at hn
  simp only at hn
  split at hn
  · rename_i e ht
    split at hn
    · rename_i sz zs os hsz hz hos
      split at hn
      · rename_i hc
        obtain ⟨hidx, hle, hlen⟩ := hc
        have core : ∀ xs, evL ly os = some xs → ∀ ps, toPDs (frzA st xs) xs = some ps → sized sz ps = true → ∃ G1, Inv G1 (frzA st xs) w ∧ Ext (Ly.top ly) G st w G1 (frzA st xs) w ∧ ps.length = len ∧
            ∃ cur : Array Value, (Instr.buildSlice t len (parts.map fun (i, x) => (i, a.eval x))).run P w = .ok (.slice (some ⟨w.heap.size, 0, none⟩) len len) (w.alloc (.cells cur e)) ∧ cur.size = len * sz ∧ (∀ (k : Nat) (v : Value), cur[k]? = some v → oneCell v = true) ∧
              ∀ (k : Nat) (v : Value) (c : PD), cur[k]? = some v → (flat ps)[k]? = some c → RelP G1.M v c := by
          intro xs hxs ps hps hs
          obtain ⟨G1, i1, x1⟩ := frzA_ok (tm := Ly.top ly) xs inv
          obtain ⟨l1, r1⟩ := evL_rel he _ _ _ hos hxs
          have hpl : parts.toList.length = len := by
            have := congrArg List.length hidx
            simpa using this
          have hxl : xs.length = len := by rw [l1]; simpa using hpl
          refine ⟨G1, i1, x1, by rw [toPDs_length xs ps hps, hxl], bsl_cells i1 ht hsz hz (by rw [← hidx]; simp) hle hxl (fun k i v y hk hy => ?_) hps hs⟩
          simp only [Array.toList_map, List.getElem?_map, Option.map_eq_some_iff] at hk
          obtain ⟨⟨j, y'⟩, hk, hk2⟩ := hk
          simp only [Prod.mk.injEq] at hk2
          obtain ⟨rfl, rfl⟩ := hk2
          exact (r1 k _ y (by simp [hk]) hy).ext x1
        have hop : execOp a.eval o = (do pure (Next.value (← Instr.buildSlice t len (parts.map fun (i, x) => (i, a.eval x))))) := by unfold execOp; rw [ho]
        split at hn
        · injection hn with hn; subst hn
          simp only [AOp.run] at hrun
          split at hrun
          · rename_i xs hxs
            split at hrun
            · rename_i ps hps
              split at hrun
              · rename_i hs
                obtain ⟨rfl, rfl⟩ := val_inj hrun
                obtain ⟨G1, i1, x1, hl, cur, c1, c2, c3, c4⟩ := core xs hxs ps hps hs
                obtain ⟨s1, s2⟩ := sized_spec hs
                obtain ⟨G2, i2, x2, r2⟩ := push_row (tm := Ly.top ly) i1 (Nat.le_trans htm x1.len) (alloc_oneMore w (.cells cur e)) (mt := true) (sz := sz) (cap := len) (xs := ps) (fun _ _ h => by omega) c2 (by omega) (by unfold maxLen; omega) s1 s2 c3 c4
                rw [hl] at r2
                rw [hl] at hp
                exact wp_yields (hp.after x1) hop ⟨_, G2, _, c1, r2, i2, x2⟩
              · cases hrun
            · cases hrun
          · cases hrun
        · injection hn with hn; subst hn
          simp only [AOp.run] at hrun
          split at hrun
          · rename_i xs hxs
            split at hrun
            · rename_i ps hps
              split at hrun
              · rename_i hs
                obtain ⟨rfl, rfl⟩ := val_inj hrun
                obtain ⟨G1, i1, x1, hl, cur, c1, c2, c3, c4⟩ := core xs hxs ps hps hs
                obtain ⟨s1, s2⟩ := sized_spec hs
                obtain ⟨G2, i2, x2, r2⟩ := push_tight (tm := Ly.top ly) i1 (alloc_oneMore w (.cells cur e)) (sz := sz) (xs := ps) (by rw [hl]; exact c2) (by rw [hl]; unfold maxLen; omega) s1 s2 c4
                rw [hl] at r2
                exact wp_yields (hp.after x1) hop ⟨_, G2, _, c1, r2, i2, x2⟩
              · cases hrun
            · cases hrun
          · cases hrun
      · cases hn
    · cases hn
  · cases hn

theorem s_load {t : TypeId} {y : Operand} (he : EnvRel G st a ly) (inv : Inv G st w) (ho : o.op = .load t y) (hn : normOp P ad br o = some ao) (hrun : ao.run call ly st = some (r, st'))
    (hp : Post (Ly.top ly) G st w r st' o a next Q) : o.wp P a w next Q := by
  unfold normOp at hn
  rw [ho] at hn
  simp only at hn
  split at hn
  · rename_i g n p hg hs hy
    injection hn with hn; subst hn
    simp only [AOp.run] at hrun
    split at hrun
    · rename_i x hx
      split at hrun
      · rename_i z hz
        obtain ⟨rfl, rfl⟩ := val_inj hrun
        obtain ⟨i, hi, rfl⟩ := sizeT_some hs
        exact wp_yields hp (by unfold execOp; rw [ho]) (load_sound inv hi hg (ev_rel he hy hx) hz)
      · cases hrun
    · cases hrun
  · cases hn

theorem s_store {t : TypeId} {y z : Operand} (he : EnvRel G st a ly) (inv : Inv G st w) (ho : o.op = .store t y z) (hn : normOp P ad br o = some ao) (hrun : ao.run call ly st = some (r, st'))
    (hp : Post (Ly.top ly) G st w r st' o a next Q) : o.wp P a w next Q := by
  unfold normOp at hn
  rw [ho] at hn
  simp only at hn
  split at hn
  · rename_i n p q hs hy hz
    injection hn with hn; subst hn
    simp only [AOp.run] at hrun
    split at hrun
    · rename_i x1 x2 hx1 hx2
      split at hrun
      · rename_i st1 hd
        obtain ⟨rfl, rfl⟩ := val_inj hrun
        obtain ⟨i, hi, rfl⟩ := sizeT_some hs
        exact wp_yieldsU hp (by unfold execOp; rw [ho]) (store_sound inv hi (ev_rel he hy hx1) (ev_rel he hz hx2) hd)
      · cases hrun
    · cases hrun
  · cases hn

theorem s_nilck {y : Operand} (he : EnvRel G st a ly) (inv : Inv G st w) (ho : o.op = .nilCheck y) (hn : normOp P ad br o = some ao) (hrun : ao.run call ly st = some (r, st'))
    (hp : Post (Ly.top ly) G st w r st' o a next Q) : o.wp P a w next Q := by
  unfold normOp at hn
  rw [ho] at hn
  simp only at hn
  split at hn
  · rename_i p hy
    injection hn with hn; subst hn
    simp only [AOp.run] at hrun
    split at hrun <;> first | (cases hrun; done) | skip
    all_goals
      rename_i hx
      obtain ⟨rfl, rfl⟩ := val_inj hrun
      have h1 := ev_rel he hy hx
    · generalize hv : a.eval y = v at h1
      cases h1 with
      | ptr id off b c h2 h3 h4 => exact wp_pure hp (nilck_ptr o a y ho hv) (.ptr _ _ _ _ h2 h3 h4) inv
    · generalize hv : a.eval y = v at h1
      have h5 := h1
      have h2 := h1.pd_inv
      cases h2 with
      | ref b o' off cs vf q1 q2 q3 => exact wp_pure hp (nilck_ptr o a y ho hv) h5 inv
    · generalize hv : a.eval y = v at h1
      have h5 := h1
      cases h1 with
      | clo f us vs fs cs q1 q2 q3 q4 => exact wp_pure hp (nilck_fn o a y ho hv) h5 inv
    · generalize hv : a.eval y = v at h1
      have h5 := h1
      have h2 := h1.pd_inv.fn_inv
      subst h2
      exact wp_pure hp (nilck_fn o a y ho hv) h5 inv
  · cases hn

theorem s_bin0 {op : BinOp} {t u : TypeId} {y z : Operand} {p q : Opd} (he : EnvRel G st a ly) (inv : Inv G st w) (ho : o.op = .binOp op t y z u) (hy : opd y = some p) (hz : opd z = some q) (hrun : (AOp.bin op p q).run call ly st = some (r, st'))
    (hp : Post (Ly.top ly) G st w r st' o a next Q) : o.wp P a w next Q := by
  have hop : execOp a.eval o = (do pure (Next.value (← (do eqGuard op t y z (a.eval y) (a.eval z); Go.binOp op t (a.eval y) (a.eval z) : Sem Value)))) := by unfold execOp; rw [ho]
  simp only [AOp.run] at hrun
  split at hrun
  · rename_i k x1 k' x2 h1 h2
    have e1 := ev_rel he hy h1
    have e2 := ev_rel he hz h2
    split at hrun
    · split at hrun
      · rename_i hb
        obtain ⟨rfl, rfl⟩ := val_inj hrun
        obtain ⟨v, r1, r2⟩ := bin_run (P := P) (w := w) (op := .shl) (t := t) (ox := y) (oy := z) e1 e2 (.inl ⟨k, k', x1, x2, rfl, rfl, .inl ⟨rfl, hb, rfl⟩⟩)
        exact wp_yields hp hop (.same r1 r2 inv)
      · cases hrun
    · split at hrun
      · rename_i hb
        obtain ⟨rfl, rfl⟩ := val_inj hrun
        obtain ⟨v, r1, r2⟩ := bin_run (P := P) (w := w) (op := .shr) (t := t) (ox := y) (oy := z) e1 e2 (.inl ⟨k, k', x1, x2, rfl, rfl, .inr (.inl ⟨rfl, hb, rfl⟩)⟩)
        exact wp_yields hp hop (.same r1 r2 inv)
      · cases hrun
    · rename_i n1 n2
      split at hrun
      · rename_i hk
        split at hrun
        · rename_i res hres
          obtain ⟨rfl, rfl⟩ := val_inj hrun
          obtain ⟨v, r1, r2⟩ := bin_run (P := P) (w := w) (op := op) (t := t) (ox := y) (oy := z) e1 e2 (.inl ⟨k, k', x1, x2, rfl, rfl, .inr (.inr ⟨n1, n2, hk, hres⟩)⟩)
          exact wp_yields hp hop (.same r1 r2 inv)
        · cases hrun
      · cases hrun
  · rename_i x1 x2 h1 h2
    split at hrun
    · rename_i res hres
      obtain ⟨rfl, rfl⟩ := val_inj hrun
      obtain ⟨v, r1, r2⟩ := bin_run (P := P) (w := w) (op := op) (t := t) (ox := y) (oy := z) (ev_rel he hy h1) (ev_rel he hz h2) (.inr ⟨x1, x2, rfl, rfl, hres⟩)
      exact wp_yields hp hop (.same r1 r2 inv)
    · cases hrun
  · cases hrun

theorem s_eq0 {ng : Bool} {k : EqK} {t u : TypeId} {y z : Operand} {p q : Opd} (he : EnvRel G st a ly) (inv : Inv G st w) (ho : o.op = .binOp (if ng then .neq else .eql) t y z u) (hk : eqKind P t = some k) (hy : opd y = some p) (hz : opd z = some q)
    (hrun : (AOp.eq (litK y z k) ng p q).run call ly st = some (r, st')) (hp : Post (Ly.top ly) G st w r st' o a next Q) : o.wp P a w next Q := by
  simp only [AOp.run] at hrun
  split at hrun
  · rename_i x1 x2 h1 h2
    split at hrun
    · rename_i b hb
      obtain ⟨rfl, rfl⟩ := val_inj hrun
      refine wp_yields hp (s := (do eqGuard (if ng then .neq else .eql) t y z (a.eval y) (a.eval z); Go.binOp (if ng then .neq else .eql) t (a.eval y) (a.eval z) : Sem Value)) (by unfold execOp; rw [ho])
        (.same (eq_runL hk (ev_rel he hy h1) (ev_rel he hz h2) hb) (.ofBool _) inv)
    · cases hrun
  · cases hrun

theorem s_bin {op : BinOp} {t u : TypeId} {y z : Operand} (he : EnvRel G st a ly) (inv : Inv G st w) (ho : o.op = .binOp op t y z u) (hn : normOp P ad br o = some ao) (hrun : ao.run call ly st = some (r, st'))
    (hp : Post (Ly.top ly) G st w r st' o a next Q) : o.wp P a w next Q := by
  unfold normOp at hn
  rw [ho] at hn
  simp only at hn
  split at hn
  · rename_i p q hy hz
    split at hn
    · split at hn
      · injection hn with hn; subst hn; exact s_bin0 he inv ho hy hz hrun hp
      · injection hn with hn; subst hn; exact s_bin0 he inv ho hy hz hrun hp
      · split at hn
        · rename_i k hk
          injection hn with hn; subst hn
          exact s_eq0 (ng := false) he inv ho hk hy hz hrun hp
        · cases hn
    · split at hn
      · injection hn with hn; subst hn; exact s_bin0 he inv ho hy hz hrun hp
      · injection hn with hn; subst hn; exact s_bin0 he inv ho hy hz hrun hp
      · split at hn
        · rename_i k hk
          injection hn with hn; subst hn
          exact s_eq0 (ng := true) he inv ho hk hy hz hrun hp
        · cases hn
    · injection hn with hn; subst hn; exact s_bin0 he inv ho hy hz hrun hp
  · cases hn

theorem s_un {op : UnOp} {t : TypeId} {y : Operand} (he : EnvRel G st a ly) (inv : Inv G st w) (ho : o.op = .unOp op t y) (hn : normOp P ad br o = some ao) (hrun : ao.run call ly st = some (r, st'))
    (hp : Post (Ly.top ly) G st w r st' o a next Q) : o.wp P a w next Q := by
  unfold normOp at hn
  rw [ho] at hn
  simp only at hn
  have hop : execOp a.eval o = (do pure (Next.value (← Op.unary op (a.eval y)))) := by unfold execOp; rw [ho]
  split at hn
  · rename_i p hy
    injection hn with hn; subst hn
    simp only [AOp.run] at hrun
    split at hrun
    · rename_i k x hx
      obtain ⟨rfl, rfl⟩ := val_inj hrun
      have := (ev_rel he hy hx).int_inv
      exact wp_yields hp hop (.same (v := .int k (k.wrap (0 - x))) (by rw [this]; rfl) (.ofInt _ _) inv)
    · cases hrun
  · rename_i p hy
    injection hn with hn; subst hn
    simp only [AOp.run] at hrun
    split at hrun
    · rename_i x hx
      obtain ⟨rfl, rfl⟩ := val_inj hrun
      have := (ev_rel he hy hx).bool_inv
      exact wp_yields hp hop (.same (v := .bool (!x)) (by rw [this]; rfl) (.ofBool _) inv)
    · cases hrun
  · cases hn
end
end Go.Proofs.Kh
