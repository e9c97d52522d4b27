/- Each of the machine's operations does what the model's does: the last of them, and all together. -/
import Derived.Test.YtgnmblegndbflaaGreatDoorKhU
namespace Go.Proofs.Kh
set_option linter.all false
set_option linter.unusedVariables false
set_option linter.unusedSimpArgs false
open Go
section
variable {P : Program} {G : Gh} {st : St} {w : World} {o : Oper} {a : Act} {next : Act → World → Prop} {Q : Exit → Act → World → Prop} {call : CallF} {ly : Ly} {ad : List (Nat × Nat × Bool)} {br : Bool} {ao : AOp} {r : ARes} {st' : St}

theorem extract_str (s : List UInt8) (l h : Nat) : (⟨s.toArray⟩ : ByteArray).extract l h = ⟨((s.drop l).take (h - l)).toArray⟩ := by
  apply ByteArray.ext
  rw [ByteArray.data_extract]
  simp

theorem s_slice {t : TypeId} {y : Operand} {lo hi mx : Option Operand} (he : EnvRel G st a ly) (inv : Inv G st w) (ho : o.op = .slice t y lo hi mx) (hn : normOp P ad br o = some ao) (hrun : ao.run call ly st = some (r, st'))
    (hp : Post (Ly.top ly) G st w r st' o a next Q) : o.wp P a w next Q := by
  have hop : execOp a.eval o = (do pure (Next.value (← Instr.sliceAt t (a.eval y) (lo.map a.eval) (hi.map a.eval) (mx.map a.eval)))) := by unfold execOp; rw [ho]
  unfold normOp at hn
  rw [ho] at hn
  simp only at hn
  split at hn
  · rename_i p plo phi ht hy hlo hhi hmx
    injection hn with hn; subst hn
    simp only [AOp.run] at hrun
    split at hrun
    · rename_i s hs
      split at hrun
      · rename_i l h hl hh
        split at hrun
        · rename_i hc
          obtain ⟨rfl, rfl⟩ := val_inj hrun
          have hv := (ev_rel he hy hs).str_inv
          have hmn : mx = none := by
            cases mx with
            | none => rfl
            | some m =>
              simp only [opdO] at hmx
              split at hmx <;> simp at hmx
          subst hmn
          have hb := run_bounds (P := P) (w := w) (b := false) (cap := s.length) he hlo hhi hmx hl hh rfl hc.1 hc.2 (Nat.le_refl _) (Nat.le_refl _) (fun h => absurd rfl h)
          refine wp_yields hp hop (.same (v := .string ⟨((s.drop l).take (h - l)).toArray⟩) ?_ (.ofStr _) inv)
          rw [hv]
          have hsz : (⟨s.toArray⟩ : ByteArray).size = s.length := by simp [ByteArray.size]
          unfold Instr.sliceAt
          simp only [Sem.run_bind, run_underlying ht, Result.andThen_ok, Instr.slice, Option.map_none, Option.isSome_none, Bool.false_eq_true, if_false, Sem.run_pure, hsz] at hb ⊢
          rw [hb]
          simp only [Result.andThen_ok, extract_str]
        · cases hrun
      · cases hrun
    · cases hrun
  · rename_i e p plo phi pmx ht hy hlo hhi hmx
    split at hn
    · rename_i sz hsz
      split at hn
      · cases hn
      · rename_i hmm
        injection hn with hn; subst hn
        simp only [AOp.run] at hrun
        split at hrun
        · rename_i x hx
          split at hrun
          · rename_i xs hxs
            split at hrun
            · rename_i l h m hl hh hm
              split at hrun
              · rename_i hc
                obtain ⟨c1, c2, c3, c4⟩ := hc
                obtain ⟨G1, i1, x1⟩ := frz_ok (tm := Ly.top ly) inv x
                have hrel := toPD_rel i1 ((ev_rel he hy hx).ext x1) hxs
                have he1 := he.ext x1
                -- the slice as it lies
                have core : ∃ v cap', (Instr.sliceAt t (a.eval y) (lo.map a.eval) (hi.map a.eval) (mx.map a.eval)).run P w = .ok v w ∧ (∃ ad', v = .slice ad' (h - l) cap') ∧ (pmx.isSome = true → cap' = m - l) ∧ RelP G1.M v (.sl ((xs.drop l).take (h - l))) := by
                  have hmm' : pmx ≠ none → phi ≠ none := fun h1 h2 => by subst h2; cases pmx <;> simp_all
                  generalize a.eval y = v0 at hrel ⊢
                  cases hrel with
                  | slnil =>
                    simp only [List.length_nil] at hh hm c3
                    have hb := run_bounds (P := P) (w := w) (b := true) (cap := 0) he hlo hhi hmx hl hh hm c1 c2 c3 (Nat.le_refl _) hmm'
                    have l0 : l = 0 := by omega
                    have h0 : h = 0 := by omega
                    have m0 : m = 0 := by omega
                    subst l0; subst h0; subst m0
                    refine ⟨.slice none 0 0, 0, ?_, ⟨none, rfl⟩, fun _ => rfl, by simpa using RelP.slnil⟩
                    unfold Instr.sliceAt
                    simp only [Sem.run_bind, run_underlying ht, Result.andThen_ok, Instr.slice, hb, run_sizeT hsz, Sem.run_pure]
                    cases pmx <;> simp
                  | sl b o' cap sz' _ vf hc hm' hw hs hM hr =>
                    have hb := run_bounds (P := P) (w := w) (b := true) (cap := cap) he hlo hhi hmx hl hh hm c1 c2 c3 hc hmm'
                    obtain ⟨m', hm2⟩ : ∃ m', m' = (if pmx.isSome then m else cap) := ⟨_, rfl⟩
                    rw [← hm2] at hb
                    have hmh : h ≤ m' ∧ m' ≤ cap := by rw [hm2]; split <;> omega
                    have hadr : (if m' = l then some (⟨b, o', none⟩ : Addr) else (some (⟨b, o', none⟩ : Addr)).map (·.add (l * sz))) = some ⟨b, (if m' = l then o' else o' + l * sz), none⟩ := by
                      split
                      · rfl
                      · simp [addr_add]
                    refine ⟨.slice (some ⟨b, (if m' = l then o' else o' + l * sz), none⟩) (h - l) (m' - l), m' - l, ?_, ⟨_, rfl⟩, fun hps => by rw [hm2, if_pos hps], ?_⟩
                    · unfold Instr.sliceAt
                      simp only [Sem.run_bind, run_underlying ht, Result.andThen_ok, Instr.slice, hb, run_sizeT hsz, Sem.run_pure, hadr]
                    · have hlen : ((xs.drop l).take (h - l)).length = h - l := by simp; omega
                      rw [show Value.slice (some ⟨b, (if m' = l then o' else o' + l * sz), none⟩) (h - l) (m' - l) = Value.slice (some ⟨b, (if m' = l then o' else o' + l * sz), none⟩) ((xs.drop l).take (h - l)).length (m' - l) by rw [hlen]]
                      have hfl := flat_length xs hw
                      have hsub : ∀ y, y ∈ (xs.drop l).take (h - l) → y ∈ xs := fun y hy => List.mem_of_mem_drop (List.mem_of_mem_take hy)
                      have hwid2 : ∀ y, y ∈ (xs.drop l).take (h - l) → y.cells.length = sz' := fun y hy => hw y (hsub y hy)
                      have hfl2 := flat_length _ hwid2
                      have hflat : ∀ k, k < (h - l) * sz' → (flat ((xs.drop l).take (h - l)))[k]? = (flat xs)[l * sz' + k]? := by
                        intro k hk
                        have hp0 : 0 < sz' := by
                          rcases Nat.eq_zero_or_pos sz' with h | h
                          · rw [h] at hk; omega
                          · exact h
                        have hq : k / sz' < h - l := by rw [Nat.div_lt_iff_lt_mul hp0]; exact hk
                        have hqq : l + k / sz' < xs.length := by omega
                        have hkk : (k / sz') * sz' + k % sz' = k := by rw [Nat.mul_comm]; exact Nat.div_add_mod k sz'
                        have f1 := flat_at _ hwid2 (k / sz') xs[l + k / sz'] (by rw [List.getElem?_take, if_pos hq, List.getElem?_drop]; simp [hqq]) (k % sz') (Nat.mod_lt _ hp0)
                        have f2 := flat_at xs hw (l + k / sz') xs[l + k / sz'] (by simp [hqq]) (k % sz') (Nat.mod_lt _ hp0)
                        rw [hkk] at f1
                        rw [f1, ← f2]
                        congr 1
                        rw [Nat.add_mul]; omega
                      have hle3 : h * sz' ≤ xs.length * sz' := Nat.mul_le_mul_right _ (by omega)
                      have hhl : h * sz' = l * sz' + (h - l) * sz' := by rw [← Nat.add_mul]; congr 1; omega
                      by_cases hlh : h = l
                      · have e0 : (xs.drop l).take (h - l) = [] := by rw [hlh]; simp
                        rw [e0]
                        exact .sl b _ (m' - l) 0 [] (fun _ => undef) (Nat.zero_le _) (by omega) (fun y hy => by cases hy) (fun c hc => by simp [flat] at hc) (fun k hk => by simp [flat] at hk) (fun k c hc => by simp [flat] at hc)
                      · have hml : ¬ m' = l := by omega
                        rw [if_neg hml]
                        have hxl : l < xs.length := by omega
                        -- the size that the type tells is that of the elements
                        have hss : sz' = sz := by
                          unfold widthAt at c4
                          rw [List.getElem?_eq_getElem hxl] at c4
                          simp only [beq_iff_eq] at c4
                          rw [← c4, hw _ (List.getElem_mem hxl)]
                        · subst hss
                          refine .sl b _ (m' - l) sz' _ (fun k => vf (l * sz' + k)) (by rw [hlen]; omega) (by omega) hwid2 (fun c hc => hs c (by
                              simp only [flat, List.mem_flatMap] at hc ⊢
                              obtain ⟨y, hy, hc⟩ := hc
                              exact ⟨y, hsub y hy, hc⟩)) (fun k hk => ?_) (fun k c hc => ?_)
                          · rw [hfl2, hlen] at hk
                            rw [Nat.add_assoc]
                            exact hM _ (by omega)
                          · have hk : k < (h - l) * sz' := by have := (List.getElem?_eq_some_iff.1 hc).1; rw [hfl2, hlen] at this; exact this
                            rw [hflat k hk] at hc
                            exact hr _ c hc
                obtain ⟨v, cap', r1, ⟨ad', r2⟩, r3, r4⟩ := core
                split at hrun
                · obtain ⟨rfl, rfl⟩ := val_inj hrun
                  exact wp_yields (hp.after x1) hop (.same r1 (.pd _ _ r4) i1)
                · split at hrun
                  · rename_i hps hhm
                    obtain ⟨rfl, rfl⟩ := val_inj hrun
                    refine wp_yields (hp.after x1) hop (.same r1 ?_ i1)
                    have := r3 rfl
                    subst r2
                    rw [this, ← hhm] at r4 ⊢
                    exact .tight _ _ _ r4
                  · cases hrun
              · cases hrun
            · cases hrun
          · cases hrun
        · cases hrun
    · cases hn
  · cases hn

theorem s_field {t : TypeId} {y : Operand} {i : Nat} (he : EnvRel G st a ly) (inv : Inv G st w) (ho : o.op = .field t y i) (hn : normOp P ad br o = some ao) (hrun : ao.run call ly st = some (r, st'))
    (hp : Post (Ly.top ly) G st w r st' o a next Q) : o.wp P a w next Q := by
  unfold normOp at hn
  rw [ho] at hn
  simp only at hn
  split at hn
  · rename_i fs p ht hy
    split at hn
    · rename_i f hf
      split at hn
      · rename_i g n hg hsz
        injection hn with hn; subst hn
        have hop : execOp a.eval o = (do pure (Next.value (← Instr.field t (a.eval y) i))) := by unfold execOp; rw [ho]
        have hfe : ∀ v : Value, (Instr.field t v i).run P w = (do part f.type (← asAgg v) f.offset : Sem Value).run P w := by
          intro v
          unfold Instr.field
          simp only [Sem.run_bind, run_underlying ht, Result.andThen_ok, hf]
        simp only [AOp.run] at hrun
        split at hrun
        · rename_i cs hx
          split at hrun
          · rename_i z hz
            obtain ⟨rfl, rfl⟩ := val_inj hrun
            exact wp_yields hp hop ((fld_agg inv hg hsz (ev_rel he hy hx) hz).of_run (hfe _))
          · cases hrun
        · rename_i cs hx
          split at hrun
          · rename_i z hz
            obtain ⟨rfl, rfl⟩ := val_inj hrun
            exact wp_yields hp hop ((fld_pd inv hg hsz (ev_rel he hy hx).pd_inv hz).of_run (hfe _))
          · cases hrun
        · cases hrun
      · cases hn
    · cases hn
  · cases hn

theorem s_fieldAddr {t : TypeId} {y : Operand} {i : Nat} (he : EnvRel G st a ly) (inv : Inv G st w) (ho : o.op = .fieldAddr t y i) (hn : normOp P ad br o = some ao) (hrun : ao.run call ly st = some (r, st'))
    (hp : Post (Ly.top ly) G st w r st' o a next Q) : o.wp P a w next Q := by
  unfold normOp at hn
  rw [ho] at hn
  simp only at hn
  split at hn
  · rename_i fs p ht hy
    split at hn
    · rename_i f hf
      split at hn
      · rename_i n hsz
        injection hn with hn; subst hn
        have hop : execOp a.eval o = (do pure (Next.value (← Instr.fieldAt t (a.eval y) i))) := by unfold execOp; rw [ho]
        have hfe : ∀ b o' : Nat, (Instr.fieldAt t (.pointer (some ⟨b, o', none⟩)) i).run P w = .ok (.pointer (some ⟨b, o' + f.offset, none⟩)) w := by
          intro b o'
          unfold Instr.fieldAt fieldPlace
          simp only [Sem.run_bind, run_underlying ht, Result.andThen_ok, hf, sureAddr_run, run_sizeT hsz]
          rw [if_neg (by omega)]
          simp only [Sem.run_pure, Result.andThen_ok, addr_add]
        simp only [AOp.run] at hrun
        split at hrun
        · rename_i id o1 hx
          obtain ⟨rfl, rfl⟩ := val_inj hrun
          have h1 := ev_rel he hy hx
          generalize a.eval y = v at h1 hop
          cases h1 with
          | ptr _ _ b c h2 h3 h4 => exact wp_yields hp hop (.same (hfe b o1) (.ptr _ _ _ _ h2 h3 h4) inv)
        · rename_i cs o1 hx
          obtain ⟨rfl, rfl⟩ := val_inj hrun
          have h1 := (ev_rel he hy hx).pd_inv
          generalize a.eval y = v at h1 hop
          cases h1 with
          | ref b o' _ _ vf q1 q2 q3 =>
            refine wp_yields hp hop (.same (hfe b (o' + o1)) ?_ inv)
            rw [Nat.add_assoc]
            exact .pd _ _ (.ref b o' (o1 + f.offset) cs vf q1 q2 q3)
        · rename_i id n' idx o1 hx
          have h1 := ev_rel he hy hx
          split at hrun
          · rename_i mt sz xs hs
            split at hrun
            · rename_i hl
              obtain ⟨rfl, rfl⟩ := val_inj hrun
              generalize a.eval y = v at h1 hop
              cases h1 with
              | rp _ _ _ _ _ hi ho' hh =>
                obtain ⟨g, cap, q1, q2, rfl⟩ := (hh _ _ _ hs).2 hl
                refine wp_yields hp hop (.same (hfe g (idx * sz + o1)) (.rp _ _ _ _ _ hi rfl fun mt' sz' xs' hh' => ?_) inv)
                rw [hs] at hh'
                injection hh' with hh'; injection hh' with a1 a2 a3; subst a2; subst a3
                exact ⟨by omega, fun _ => ⟨g, cap, q1, q2, by rw [Nat.add_assoc]⟩⟩
            · cases hrun
          · cases hrun
        · cases hrun
      · cases hn
    · cases hn
  · cases hn
end
end Go.Proofs.Kh
