/- The abstract machine without fuel: what calls and loops come to in the end. -/
import Derived.Test.YtacifbbmfkampaaDoorVmM
namespace Go.Vm
set_option linter.unusedVariables false
set_option linter.unusedSimpArgs false
set_option linter.unusedSectionVars false
variable [Glob]

def Le (c c' : CallH) : Prop := ∀ f xs h r, c f xs h = some r → c' f xs h = some r
def LeP (c c' : FuncId → List AV → Option AV) : Prop := ∀ f xs r, c f xs = some r → c' f xs = some r
theorem Le.refl (c : CallH) : Le c c := fun _ _ _ _ h => h
theorem Le.pure {c c' : CallH} (h : Le c c') : LeP c.pure c'.pure := by
  intro f xs r hr
  unfold CallH.pure at hr ⊢
  split at hr <;> try (simp at hr; done)
  rename_i hp
  split at hr <;> try (simp at hr; done)
  rename_i q _ hq
  rw [if_pos hp, h f xs _ _ hq]
  exact hr

theorem sem_mono {c c' : FuncId → List AV → Option AV} (h : LeP c c') {k : NK} {xs : List AV} {r : AV} (hr : sem c k xs = some r) : sem c' k xs = some r := by
  cases k <;> (try exact hr)
  · exact h _ _ _ hr
  · simp only [sem] at hr ⊢
    unfold sCallV at hr ⊢
    split at hr <;> try (simp at hr; done)
    split at hr <;> try (simp at hr; done)
    rename_i hx
    rw [if_neg hx]
    exact h _ _ _ hr
theorem semH_mono {c c' : CallH} (h : Le c c') {k : NK} {xs : List AV} {hh : Hp} {r : AV × Hp} (hr : semH c k xs hh = some r) : semH c' k xs hh = some r := by
  by_cases hH : k.isH = true
  · cases k <;> simp [NK.isH] at hH <;> (try exact hr)
    · exact h _ _ _ _ hr
    · simp only [semH] at hr ⊢
      unfold hCallV at hr ⊢
      split at hr <;> try (simp at hr; done)
      split at hr <;> try (simp at hr; done)
      rename_i hx
      rw [if_neg hx]
      exact h _ _ _ _ hr
    · exact h _ _ _ _ hr
  · have hH : k.isH = false := by simpa using hH
    rw [semH_pure hH] at hr ⊢
    split at hr
    · rename_i hp
      rw [if_pos hp]
      split at hr <;> simp at hr
      rename_i q hq
      subst hr
      rw [sem_mono h.pure hq]
    · rename_i hp
      rw [if_neg hp]; exact hr
theorem step_mono {c c' : CallH} (h : Le c c') {o : AOper} {s s' : Env × Hp} (hr : step c o s = some s') : step c' o s = some s' := by
  have hgo : ∀ {s'}, stepGo c o s = some s' → stepGo c' o s = some s' := by
    intro s' hr
    unfold stepGo at hr ⊢
    simp only at hr ⊢
    split at hr <;> simp at hr
    rename_i v h1 hv
    rw [semH_mono h hv]; simp [hr]
  unfold step at hr ⊢
  split at hr
  · exact hgo hr
  · split at hr
    · split at hr
      · rename_i hb; rw [if_pos hb]; exact hgo hr
      · rename_i hb; rw [if_neg hb]; exact hr
    · exact hr
    · simp at hr
theorem steps_mono {c c' : CallH} (h : Le c c') : ∀ {os : List AOper} {s s' : Env × Hp}, steps c os s = some s' → steps c' os s = some s'
  | [], _, _, hr => hr
  | o :: os, s, s', hr => by
    simp only [steps] at hr ⊢
    split at hr <;> try (simp at hr; done)
    rename_i s1 h1
    rw [step_mono h h1]
    exact steps_mono h hr

theorem iter_mono {f f' : Env × Hp → Option (AExit × Env × Hp)} (h : ∀ s r, f s = some r → f' s = some r) : ∀ (j j' : Nat), j ≤ j' → ∀ s r, iter f j s = some r → iter f' j' s = some r
  | 0, _, _, s, r, hr => by simp [iter] at hr
  | j + 1, 0, hj, _, _, _ => by omega
  | j + 1, j' + 1, hj, s, r, hr => by
    simp only [iter] at hr ⊢
    split at hr
    · rename_i s1 h1
      rw [h _ _ h1]
      exact iter_mono h j j' (by omega) s1 r hr
    · rename_i hn
      rw [h _ _ hr]
      cases r with
      | mk x s2 => cases x with
        | normal => exact absurd hr (hn s2)
        | exit id => rfl
        | ret => rfl

theorem evC_mono {c c' : CallH} (h : Le c c') (j j' : Nat) (hj : j ≤ j') : ∀ (a : ACode) (s : Env × Hp) (r : AExit × Env × Hp), evC c j a s = some r → evC c' j' a s = some r := by
  intro a
  induction a with
  | skip => intro s r hr; exact hr
  | ops l =>
    intro s r hr
    simp only [evC] at hr ⊢
    split at hr <;> simp at hr
    rename_i s1 h1
    rw [steps_mono h h1]; simp [hr]
  | seq a b iha ihb =>
    intro s r hr
    simp only [evC] at hr ⊢
    split at hr
    · rename_i s1 h1
      rw [iha _ _ h1]; exact ihb _ _ hr
    · rename_i hn
      rw [iha _ _ hr]
      cases r with
      | mk x s2 => cases x with
        | normal => exact absurd hr (hn s2)
        | exit id => rfl
        | ret => rfl
  | cond x a b iha ihb =>
    intro s r hr
    simp only [evC] at hr ⊢
    split at hr
    · exact iha _ _ hr
    · exact ihb _ _ hr
    · simp at hr
  | block id a ih =>
    intro s r hr
    simp only [evC] at hr ⊢
    split at hr
    · rename_i i s1 h1; rw [ih _ _ h1]; exact hr
    · rename_i hn
      rw [ih _ _ hr]
      cases r with
      | mk x s2 => cases x with
        | exit i => exact absurd hr (hn i s2)
        | normal => rfl
        | ret => rfl
  | loop a ih =>
    intro s r hr
    simp only [evC] at hr ⊢
    exact iter_mono ih j j' hj s r hr
  | exit id => intro s r hr; exact hr
  | ret => intro s r hr; exact hr
  | bad => intro s r hr; simp [evC] at hr

/-- A table of functions, whose prims hang on what calls come to alone. -/
structure Tame (E : FuncId → Option AFn) : Prop where
  prim : ∀ f F, E f = some (.prim F) → (∀ c c', LeP c c' → ∀ xs r, F c xs = some r → F c' xs = some r) ∧
    ∀ (c : Nat → FuncId → List AV → Option AV) (l : FuncId → List AV → Option AV), (∀ k k', k ≤ k' → LeP (c k) (c k')) → (∀ g ys r, l g ys = some r → ∃ k, c k g ys = some r) → ∀ xs r, F l xs = some r → ∃ k, F (c k) xs = some r
  primH : ∀ f F, E f = some (.primH F) → (∀ c c', Le c c' → ∀ xs h r, F c xs h = some r → F c' xs h = some r) ∧
    ∀ (c : Nat → CallH) (l : CallH), (∀ k k', k ≤ k' → Le (c k) (c k')) → (∀ g ys h r, l g ys h = some r → ∃ k, c k g ys h = some r) → ∀ xs h r, F l xs h = some r → ∃ k, F (c k) xs h = some r
  primX : ∀ f F, E f = some (.primX F) → (∀ c c', Le c c' → ∀ xs h r, F c xs h = some r → F c' xs h = some r) ∧
    ∀ (c : Nat → CallH) (l : CallH), (∀ k k', k ≤ k' → Le (c k) (c k')) → (∀ g ys h r, l g ys h = some r → ∃ k, c k g ys h = some r) → ∀ xs h r, F l xs h = some r → ∃ k, F (c k) xs h = some r

open Classical in
/-- What a sequence of answers comes to. -/
noncomputable def lim {α : Type} (c : Nat → Option α) : Option α := if h : ∃ r, ∃ k, ∀ k', k ≤ k' → c k' = some r then some h.choose else none
theorem lim_some {α : Type} {c : Nat → Option α} {r : α} (k : Nat) (h : ∀ k', k ≤ k' → c k' = some r) : lim c = some r := by
  have hex : ∃ r, ∃ k, ∀ k', k ≤ k' → c k' = some r := ⟨r, k, h⟩
  unfold lim
  rw [dif_pos hex]
  obtain ⟨k2, h2⟩ := hex.choose_spec
  have e1 := h (max k k2) (Nat.le_max_left _ _)
  have e2 := h2 (max k k2) (Nat.le_max_right _ _)
  rw [e1] at e2; exact e2.symm
theorem of_lim {α : Type} {c : Nat → Option α} {r : α} (h : lim c = some r) : ∃ k, ∀ k', k ≤ k' → c k' = some r := by
  unfold lim at h
  split at h <;> simp at h
  rename_i hex
  rw [← h]; exact hex.choose_spec

/-- What a call comes to. -/
noncomputable def evT (E : FuncId → Option AFn) : CallH := fun f xs h => lim fun k => evCall E k f xs h

/-- Code, with calls given, without fuel. -/
noncomputable def evX (call : CallH) : ACode → Env × Hp → Option (AExit × Env × Hp)
  | .skip, s => some (.normal, s)
  | .ops l, s => match steps call l s with | some s1 => some (.normal, s1) | none => none
  | .seq a b, s => match evX call a s with
    | some (.normal, s1) => evX call b s1
    | r => r
  | .cond x a b, s => match (rd s.1 x).1 with
    | .bool true => evX call a s
    | .bool false => evX call b s
    | _ => none
  | .block id c, s => match evX call c s with
    | some (.exit i, s1) => if i = id then some (.normal, s1) else some (.exit i, s1)
    | r => r
  | .loop c, s => lim fun j => iter (evX call c) j s
  | .exit id, s => some (.exit id, s)
  | .ret, s => some (.ret, s)
  | .bad, _ => none

theorem iter_from {f : Env × Hp → Option (AExit × Env × Hp)} {j : Nat} {s : Env × Hp} {r} (h : iter f j s = some r) : ∀ j', j ≤ j' → iter f j' s = some r :=
  fun j' hj => iter_mono (fun _ _ h => h) j j' hj s r h

/-- A loop is its body, and the loop again. -/
theorem evX_loop (call : CallH) (c : ACode) (s : Env × Hp) : evX call (.loop c) s = match evX call c s with
    | some (.normal, s1) => evX call (.loop c) s1
    | r => r := by
  simp only [evX]
  cases hc : evX call c s with
  | none =>
    cases hl : lim fun j => iter (evX call c) j s with
    | none => rfl
    | some r =>
      obtain ⟨k, hk⟩ := of_lim hl
      have := hk (k + 1) (by omega)
      simp [iter, hc] at this
  | some q =>
    obtain ⟨x, s1⟩ := q
    cases x with
    | normal =>
      simp only
      cases hl : lim fun j => iter (evX call c) j s1 with
      | some r =>
        obtain ⟨k, hk⟩ := of_lim hl
        refine lim_some (k + 1) fun k' hk' => ?_
        obtain ⟨m, rfl⟩ : ∃ m, k' = m + 1 := ⟨k' - 1, by omega⟩
        simp only [iter, hc]; exact hk m (by omega)
      | none =>
        cases hl2 : lim fun j => iter (evX call c) j s with
        | none => rfl
        | some r =>
          exfalso
          obtain ⟨k, hk⟩ := of_lim hl2
          have : (lim fun j => iter (evX call c) j s1) = some r := lim_some k fun k' hk' => by
            have := hk (k' + 1) (by omega)
            simpa [iter, hc] using this
          rw [hl] at this; cases this
    | exit i =>
      exact lim_some 1 fun k' hk' => by obtain ⟨m, rfl⟩ : ∃ m, k' = m + 1 := ⟨k' - 1, by omega⟩; simp only [iter, hc]
    | ret =>
      exact lim_some 1 fun k' hk' => by obtain ⟨m, rfl⟩ : ∃ m, k' = m + 1 := ⟨k' - 1, by omega⟩; simp only [iter, hc]

section
variable {c : Nat → CallH} {l : CallH}

/-- What the end comes to, enough fuel comes to. -/
theorem step_cont (hm : ∀ k k', k ≤ k' → Le (c k) (c k')) (hl : ∀ g ys h r, l g ys h = some r → ∃ k, c k g ys h = some r) {o : AOper} {s s' : Env × Hp} (h : step l o s = some s') : ∃ k, ∀ k', k ≤ k' → step (c k') o s = some s' := by
  suffices hs : ∃ k, step (c k) o s = some s' by
    obtain ⟨k, hk⟩ := hs
    exact ⟨k, fun k' hk' => step_mono (hm k k' hk') hk⟩
  have hpl : ∀ g ys r, l.pure g ys = some r → ∃ k, (c k).pure g ys = some r := by
    intro g ys r hr
    unfold CallH.pure at hr
    split at hr <;> try (simp at hr; done)
    rename_i hp
    split at hr <;> try (simp at hr; done)
    rename_i q _ hq
    obtain ⟨k, hk⟩ := hl _ _ _ _ hq
    exact ⟨k, by unfold CallH.pure; rw [if_pos hp, hk]; exact hr⟩
  have hsem : ∀ k xs h r, semH l k xs h = some r → ∃ n, semH (c n) k xs h = some r := by
    intro k xs h r hr
    by_cases hH : k.isH = true
    · cases k <;> simp [NK.isH] at hH <;> (try exact ⟨0, hr⟩)
      · exact hl _ _ _ _ hr
      · simp only [semH] at hr ⊢
        unfold hCallV at hr ⊢
        split at hr <;> try (simp at hr; done)
        split at hr <;> try (simp at hr; done)
        rename_i hx
        obtain ⟨k, hk⟩ := hl _ _ _ _ hr
        exact ⟨k, by rw [if_neg hx]; exact hk⟩
      · exact hl _ _ _ _ hr
    · have hH : k.isH = false := by simpa using hH
      rw [semH_pure hH] at hr
      split at hr
      · rename_i hp
        split at hr <;> simp at hr
        rename_i q hq
        subst hr
        have : ∃ n, sem (c n).pure k xs = some q := by
          cases k <;> (try exact ⟨0, hq⟩)
          · exact hpl _ _ _ hq
          · simp only [sem] at hq ⊢
            unfold sCallV at hq ⊢
            split at hq <;> try (simp at hq; done)
            split at hq <;> try (simp at hq; done)
            rename_i hx
            obtain ⟨k, hk⟩ := hpl _ _ _ hq
            exact ⟨k, by rw [if_neg hx]; exact hk⟩
        obtain ⟨n, hn⟩ := this
        exact ⟨n, by rw [semH_pure hH, if_pos hp, hn]⟩
      · rename_i hp
        exact ⟨0, by rw [semH_pure hH, if_neg hp]; exact hr⟩
  have hgo : ∀ {s'}, stepGo l o s = some s' → ∃ k, stepGo (c k) o s = some s' := by
    intro s' hr
    unfold stepGo at hr
    simp only at hr
    split at hr <;> simp at hr
    rename_i v h1 hv
    obtain ⟨n, hn⟩ := hsem _ _ _ _ hv
    exact ⟨n, by unfold stepGo; simp only [hn]; simp [hr]⟩
  unfold step at h ⊢
  split at h
  · exact hgo h
  · split at h
    · split at h
      · rename_i hb; obtain ⟨n, hn⟩ := hgo h; exact ⟨n, by rw [if_pos hb]; exact hn⟩
      · rename_i hb; exact ⟨0, by rw [if_neg hb]; exact h⟩
    · exact ⟨0, h⟩
    · simp at h
theorem steps_cont (hm : ∀ k k', k ≤ k' → Le (c k) (c k')) (hl : ∀ g ys h r, l g ys h = some r → ∃ k, c k g ys h = some r) : ∀ {os : List AOper} {s s' : Env × Hp}, steps l os s = some s' → ∃ k, ∀ k', k ≤ k' → steps (c k') os s = some s'
  | [], _, _, h => ⟨0, fun _ _ => h⟩
  | o :: os, s, s', h => by
    simp only [steps] at h
    split at h <;> try (simp at h; done)
    rename_i s1 h1
    obtain ⟨k1, hk1⟩ := step_cont hm hl h1
    obtain ⟨k2, hk2⟩ := steps_cont hm hl h
    exact ⟨max k1 k2, fun k' hk' => by simp only [steps]; rw [hk1 k' (by omega)]; exact hk2 k' (by omega)⟩

theorem evX_cont (hm : ∀ k k', k ≤ k' → Le (c k) (c k')) (hl : ∀ g ys h r, l g ys h = some r → ∃ k, c k g ys h = some r) :
    ∀ (a : ACode) (s : Env × Hp) (r : AExit × Env × Hp), evX l a s = some r → ∃ k, ∀ k', k ≤ k' → evC (c k') k' a s = some r := by
  intro a
  induction a with
  | skip => intro s r h; exact ⟨0, fun _ _ => h⟩
  | ops os =>
    intro s r h
    simp only [evX] at h
    split at h <;> simp at h
    rename_i s1 h1
    obtain ⟨k, hk⟩ := steps_cont hm hl h1
    exact ⟨k, fun k' hk' => by simp only [evC, hk k' hk']; simp [h]⟩
  | seq a b iha ihb =>
    intro s r h
    simp only [evX] at h
    split at h
    · rename_i s1 h1
      obtain ⟨k1, hk1⟩ := iha _ _ h1
      obtain ⟨k2, hk2⟩ := ihb _ _ h
      exact ⟨max k1 k2, fun k' hk' => by simp only [evC, hk1 k' (by omega)]; exact hk2 k' (by omega)⟩
    · rename_i hn
      obtain ⟨k1, hk1⟩ := iha _ _ h
      refine ⟨k1, fun k' hk' => ?_⟩
      simp only [evC, hk1 k' hk']
      cases r with
      | mk x s2 => cases x with
        | normal => exact absurd h (hn s2)
        | exit id => rfl
        | ret => rfl
  | cond x a b iha ihb =>
    intro s r h
    simp only [evX] at h
    split at h
    · rename_i hb; obtain ⟨k, hk⟩ := iha _ _ h; exact ⟨k, fun k' hk' => by simp only [evC, hb]; exact hk k' hk'⟩
    · rename_i hb; obtain ⟨k, hk⟩ := ihb _ _ h; exact ⟨k, fun k' hk' => by simp only [evC, hb]; exact hk k' hk'⟩
    · simp at h
  | block id a ih =>
    intro s r h
    simp only [evX] at h
    split at h
    · rename_i i s1 h1
      obtain ⟨k, hk⟩ := ih _ _ h1
      exact ⟨k, fun k' hk' => by simp only [evC, hk k' hk']; exact h⟩
    · rename_i hn
      obtain ⟨k, hk⟩ := ih _ _ h
      refine ⟨k, fun k' hk' => ?_⟩
      simp only [evC, hk k' hk']
      cases r with
      | mk x s2 => cases x with
        | exit i => exact absurd h (hn i s2)
        | normal => rfl
        | ret => rfl
  | loop a ih =>
    intro s r h
    simp only [evX] at h
    obtain ⟨j, hj⟩ := of_lim h
    have key : ∀ (j : Nat) (s : Env × Hp), iter (evX l a) j s = some r → ∃ k, ∀ k', k ≤ k' → iter (evC (c k') k' a) k' s = some r := by
      intro j
      induction j with
      | zero => intro s h; simp [iter] at h
      | succ j ihj =>
        intro s h
        simp only [iter] at h
        split at h
        · rename_i s1 h1
          obtain ⟨k1, hk1⟩ := ih _ _ h1
          obtain ⟨k2, hk2⟩ := ihj s1 h
          refine ⟨max k1 k2 + 1, fun k' hk' => ?_⟩
          obtain ⟨m, rfl⟩ : ∃ m, k' = m + 1 := ⟨k' - 1, by omega⟩
          simp only [iter, hk1 (m + 1) (by omega)]
          have := hk2 m (by omega)
          exact iter_mono (fun s r h => evC_mono (hm m (m + 1) (by omega)) m (m + 1) (by omega) a s r h) m m (Nat.le_refl _) s1 r this
        · rename_i hn
          obtain ⟨k1, hk1⟩ := ih _ _ h
          refine ⟨k1 + 1, fun k' hk' => ?_⟩
          obtain ⟨m, rfl⟩ : ∃ m, k' = m + 1 := ⟨k' - 1, by omega⟩
          simp only [iter, hk1 (m + 1) (by omega)]
          cases r with
          | mk x s2 => cases x with
            | normal => exact absurd h (hn s2)
            | exit id => rfl
            | ret => rfl
    obtain ⟨k, hk⟩ := key j s (hj j (Nat.le_refl _))
    exact ⟨k, fun k' hk' => by simp only [evC]; exact hk k' hk'⟩
  | exit id => intro s r h; exact ⟨0, fun _ _ => h⟩
  | ret => intro s r h; exact ⟨0, fun _ _ => h⟩
  | bad => intro s r h; simp [evX] at h
end

section
variable {E : FuncId → Option AFn}

theorem evCall_up (T : Tame E) : ∀ k, Le (evCall E k) (evCall E (k + 1))
  | 0 => fun f xs h r hr => by simp [evCall] at hr
  | k + 1 => by
    have ih := evCall_up T k
    intro f xs h r hr
    rw [evCall] at hr ⊢
    split at hr
    · rename_i af hE
      split at hr <;> try (simp at hr; done)
      rename_i hlen
      rw [if_pos hlen]
      split at hr <;> try (simp at hr; done)
      · rename_i e h1 he; rw [evC_mono ih k (k + 1) (by omega) _ _ _ he]; exact hr
      · rename_i e h1 he; rw [evC_mono ih k (k + 1) (by omega) _ _ _ he]; exact hr
    · rename_i F hE
      split at hr <;> try (simp at hr; done)
      rename_i hp
      rw [if_pos hp]
      split at hr <;> try (simp at hr; done)
      rename_i q hq
      rw [(T.prim f F hE).1 _ _ ih.pure _ _ hq]; exact hr
    · rename_i F hE
      exact (T.primH f F hE).1 _ _ ih _ _ _ hr
    · rename_i F hE
      exact (T.primX f F hE).1 _ _ ih _ _ _ hr
    · simp at hr
theorem evCall_mono (T : Tame E) {k k' : Nat} (h : k ≤ k') : Le (evCall E k) (evCall E k') := by
  induction h with
  | refl => exact Le.refl _
  | step _ ih => exact fun f xs h r hr => evCall_up T _ f xs h r (ih f xs h r hr)

theorem evT_of (T : Tame E) {f : FuncId} {xs : List AV} {h : Hp} {r} (k : Nat) (hk : evCall E k f xs h = some r) : evT E f xs h = some r :=
  lim_some k fun k' hk' => evCall_mono T hk' f xs h r hk
theorem of_evT {f : FuncId} {xs : List AV} {h : Hp} {r} (hr : evT E f xs h = some r) : ∃ k, evCall E k f xs h = some r := by
  obtain ⟨k, hk⟩ := of_lim hr; exact ⟨k, hk k (Nat.le_refl _)⟩

/-- How a function ends. -/
def endOf (h0 : Hp) (res : List ARes) : Option (AExit × Env × Hp) → Option (AV × Hp)
  | some (.normal, e, h1) => leave h0 h1 (resOf e h1 res)
  | some (.ret, e, h1) => leave h0 h1 (resOf e h1 res)
  | _ => none

/-- What a function's call comes to. -/
theorem evT_code (T : Tame E) {f : FuncId} {af : AFunc} (hE : E f = some (.code af)) {xs : List AV} (hl : xs.length = af.np) {h h' : Hp} {r : AV}
    (hb : endOf h af.res (evX (evT E) af.body (init xs, h)) = some (r, h')) : evT E f xs h = some (r, h') := by
  have hx : ∃ q, evX (evT E) af.body (init xs, h) = some q := by
    cases hq : evX (evT E) af.body (init xs, h) with
    | none => rw [hq] at hb; simp [endOf] at hb
    | some q => exact ⟨q, rfl⟩
  obtain ⟨q, hq⟩ := hx
  obtain ⟨k, hk⟩ := evX_cont (c := evCall E) (l := evT E) (fun k k' h => evCall_mono T h) (fun g ys h r hr => of_evT hr) _ _ _ hq
  refine evT_of T (k + 1) ?_
  rw [evCall, hE]
  simp only
  rw [if_pos hl, hk k (Nat.le_refl _)]
  rw [hq] at hb
  obtain ⟨x, e, h1⟩ := q
  cases x with
  | normal => exact hb
  | exit i => simp [endOf] at hb
  | ret => exact hb

/-- What a prim comes to. -/
theorem evT_prim (T : Tame E) {f : FuncId} {F} (hE : E f = some (.prim F)) {xs : List AV} {h : Hp} {r : AV} (hp : xs.all AV.pu = true) (hr : F (evT E).pure xs = some r) (hrp : r.pu = true) : evT E f xs h = some (r, h) := by
  have hpl : ∀ g ys r, (evT E).pure g ys = some r → ∃ k, (evCall E k).pure g ys = some r := by
    intro g ys r hr
    unfold CallH.pure at hr
    split at hr <;> try (simp at hr; done)
    rename_i hp
    split at hr <;> try (simp at hr; done)
    rename_i q _ hq
    obtain ⟨k, hk⟩ := of_evT hq
    exact ⟨k, by unfold CallH.pure; rw [if_pos hp, hk]; exact hr⟩
  obtain ⟨k, hk⟩ := (T.prim f F hE).2 (fun k => (evCall E k).pure) _ (fun k k' h => (evCall_mono T h).pure) hpl xs r hr
  exact evT_of T (k + 1) (by rw [evCall, hE]; simp only; rw [if_pos hp, hk]; simp [hrp])
theorem evT_primH (T : Tame E) {f : FuncId} {F} (hE : E f = some (.primH F)) {xs : List AV} {h : Hp} {r} (hr : F (evT E) xs h = some r) : evT E f xs h = some r := by
  obtain ⟨k, hk⟩ := (T.primH f F hE).2 (evCall E) _ (fun k k' h => evCall_mono T h) (fun g ys h r hr => of_evT hr) xs h r hr
  exact evT_of T (k + 1) (by rw [evCall, hE]; exact hk)
theorem evT_primX (T : Tame E) {f : FuncId} {F} (hE : E f = some (.primX F)) {xs : List AV} {h : Hp} {r} (hr : F (evT E) xs h = some r) : evT E f xs h = some r := by
  obtain ⟨k, hk⟩ := (T.primX f F hE).2 (evCall E) _ (fun k k' h => evCall_mono T h) (fun g ys h r hr => of_evT hr) xs h r hr
  exact evT_of T (k + 1) (by rw [evCall, hE]; exact hk)
theorem evT_pure {f : FuncId} {xs : List AV} {r : AV} {h' : Hp} (h : evT E f xs Hp.e = some (r, h')) (hp : xs.all AV.pu = true) (hr : r.pu = true) : (evT E).pure f xs = some r := by
  unfold CallH.pure; rw [if_pos hp, h]; simp [hr]

/-- From the abstract machine to the program. -/
theorem evT_calls {P : Program} {EQ : List TypeId} (S : Sound P EQ E) {f : FuncId} (hx : isX f = false) {xs : List AV} {us : List Value} {r : AV} {h' : Hp} {C : Pub} {w : World} (hr : evT E f xs Hp.e = some (r, h')) (hrp : r.pu = true)
    (hw : Wd C w) (hg : Gl C) (hv : VRs C xs us) (hs : ∀ x ∈ xs, x.share = x) : Calls P f us.toArray w fun e w' => ∃ v, e = .returned v ∧ Fin w.heap.size C w [] r v w' := by
  obtain ⟨k, hk⟩ := of_evT hr
  exact Calls.mono ((calling S k).sim f xs us Hp.e r h' C _ w hx hk hw hg (HR.e C w) (.ofVRs hv) hs) fun e w' ⟨v, he, hf⟩ => ⟨v, he, hf.toFin hrp⟩

end
end Go.Vm
