/- Regions: in the text's order, and in whatever order the edges allow. -/
import Derived.Test.YtacifbbmfkampaaDoorVmK
namespace Go.Vm
open Go.RowKit
set_option linter.unusedVariables false
set_option linter.unusedSimpArgs false
set_option linter.unusedSectionVars false
variable [Glob]

section
variable {P : Program} {n : Nat} {C0 C : Pub} {φ0 φ : Phi} {h0 h h' : Hp} {w0 w : World} {e : Env} {s : Env × Hp} {a : Act} {EQ : List TypeId} {call : CallH}

theorem St.drew (H : St n C0 φ0 h0 w0 C φ s a w) : St n C0 φ0 h0 w0 C φ s a w.drew :=
  ⟨H.size, H.defers, ⟨H.ext.os, H.ext.tape, H.ext.output, H.ext.size, H.ext.old, H.ext.mono, H.ext.wd⟩, H.vt, H.own, H.nodup, H.disj, ⟨H.hr.dom, H.hr.lt, H.hr.inj, H.hr.obj⟩, H.apart, H.agr, H.new, H.nx, H.gl⟩

theorem tv_bool {t : Nat} {b : Bool} (h : tv a t = .bool b) : a.tmps[t]? = some (.bool b) := by
  unfold tv at h
  cases ht : a.tmps[t]? with
  | none => simp [Array.getD_eq_getD_getElem?, ht, undef] at h
  | some v => simp [Array.getD_eq_getD_getElem?, ht] at h; rw [h]

/-- One operation of a region. -/
theorem op_sim (hEQ : ∀ t ∈ EQ, EqLaw P t) (hc : CallingH P call) {ops : Array Oper} {i : Nat} {o : Oper} {ao : AOper} (hi : ops[i]? = some o) (hchk : chkOper P EQ n ops o ao = true) {s' : Env × Hp}
    (H : St n C0 φ0 h0 w0 C φ s a w) (hs : step call ao s = some s') {K : Act → World → Prop} {Q : Exit → Act → World → Prop} (hK : ∀ C' φ' a' w', St n C0 φ0 h0 w0 C' φ' s' a' w' → K a' w') : wpOp P ops Q i K a w := by
  obtain ⟨e, h⟩ := s
  unfold wpOp
  simp only [hi]
  have hg : chkG ops o.guard ao.g = true ∧ (ao.g ≠ none → o.dst = ao.dst) := by
    unfold chkOper at hchk
    simp only [Bool.and_eq_true, Bool.or_eq_true] at hchk
    rcases hchk.2 with h1 | h1
    · unfold chkIni at h1
      split at h1 <;> try (simp at h1; done)
      rename_i hgd
      simp only [Bool.and_eq_true, beq_iff_eq] at h1
      rw [hgd, h1.2]
      exact ⟨rfl, fun hn => absurd rfl hn⟩
    · split at h1 <;> try (simp at h1; done)
      simp only [Bool.and_eq_true, beq_iff_eq] at h1
      exact ⟨h1.2, fun _ => h1.1.2⟩
  have hlt : ltO n ao.dst = true := by
    unfold chkOper at hchk; simp only [Bool.and_eq_true] at hchk; exact hchk.1
  unfold step at hs
  cases hag : ao.g with
  | none =>
    rw [hag] at hg hs
    cases hog : o.guard with
    | some g => rw [hog] at hg; simp [chkG] at hg
    | none =>
      have hw : Region.wanted o (yielded ops a.tmps) = true := by simp [Region.wanted, hog]
      rw [if_pos hw]
      exact .inl (go_sim hEQ hc hchk H hs hK)
  | some g =>
    obtain ⟨t, want⟩ := g
    rw [hag] at hg hs
    cases hog : o.guard with
    | none => rw [hog] at hg; simp [chkG] at hg
    | some g' =>
      obtain ⟨j, want'⟩ := g'
      rw [hog] at hg
      obtain ⟨hg, hdst0⟩ := hg
      have hdst := hdst0 (by simp)
      simp only [chkG, Bool.and_eq_true, beq_iff_eq] at hg
      obtain ⟨rfl, hj⟩ := hg
      have skip : some (updO e ao.dst (.tup []), h) = some s' → K (a.put o.dst undef) w := by
        intro he
        have hf := (Fin.shared (n0 := w0.heap.size) (Bs := []) H.ext.wd (VR.tup_mk (vs := []) VRs.nil) rfl).toH H.hr (by simp)
        obtain ⟨C', φ', hst⟩ := H.next (d := ao.dst) (r := .tup []) (v := undef) (w' := w) (a' := a.put o.dst undef) (Bs := []) hlt (by simp) (by simp) hf (by rw [put_size]; exact H.size) (by rw [put_defers]; exact H.defers)
          (fun s hs => by rw [hdst]; cases hdd : ao.dst with
            | none => rfl
            | some d => exact tv_put_other (fun he => hs (by rw [hdd, he])))
          (fun s hs => by rw [hdst, hs]; exact tv_put_same (by rw [hs] at hlt; rw [H.size]; simpa [ltO] using hlt))
        exact hK C' φ' _ _ (by rw [← Option.some.inj he]; exact hst)
      simp only at hs
      split at hs
      · rename_i b hb
        have hv := H.vt t
        rw [show (e, h).1 t = AV.bool b from hb] at hv
        have hv := hv.toVR rfl
        have hv' : tv a t = .bool b := by generalize tv a t = u at hv; cases hv; rfl
        have hy : yielded ops a.tmps j = some b := by unfold yielded; rw [hj]; simp [tv_bool hv']
        by_cases hbw : b = want'
        · rw [if_pos hbw] at hs
          have hw : Region.wanted o (yielded ops a.tmps) = true := by simp [Region.wanted, hog, hy, hbw]
          rw [if_pos hw]
          exact .inl (go_sim hEQ hc hchk H hs hK)
        · rw [if_neg hbw] at hs
          have hw : Region.wanted o (yielded ops a.tmps) = false := by simp [Region.wanted, hog, hy, hbw]
          rw [if_neg (by rw [hw]; simp)]
          exact skip hs
      · rename_i hb
        have hv := H.vt t
        rw [show (e, h).1 t = AV.tup [] from hb] at hv
        obtain ⟨vs, hv', hvs⟩ := hv.tup_inv
        cases hvs.nil_inv
        have hy : yielded ops a.tmps j = none := by
          unfold yielded; rw [hj]
          unfold tv at hv'
          cases ht : a.tmps[t]? with
          | none => simp [ht]
          | some u => simp [Array.getD_eq_getD_getElem?, ht] at hv'; simp [ht, hv']
        have hw : Region.wanted o (yielded ops a.tmps) = false := by simp [Region.wanted, hog, hy]
        rw [if_neg (by rw [hw]; simp)]
        exact skip hs
      · simp at hs

def chkOps (P : Program) (EQ : List TypeId) (n : Nat) (ops : Array Oper) : List Oper → List AOper → Bool
  | [], [] => true
  | o :: os, x :: xs => chkOper P EQ n ops o x && chkOps P EQ n ops os xs
  | _, _ => false
theorem chkOps_get {ops : Array Oper} : ∀ {os : List Oper} {xs : List AOper}, chkOps P EQ n ops os xs = true → os.length = xs.length ∧ ∀ (i : Nat) o, os[i]? = some o → ∃ x, xs[i]? = some x ∧ chkOper P EQ n ops o x = true
  | [], [], _ => ⟨rfl, by simp⟩
  | [], _ :: _, h => by simp [chkOps] at h
  | _ :: _, [], h => by simp [chkOps] at h
  | o :: os, x :: xs, h => by
    simp only [chkOps, Bool.and_eq_true] at h
    obtain ⟨h1, h2⟩ := chkOps_get h.2
    refine ⟨by simp [h1], fun i o' hi => ?_⟩
    cases i with
    | zero => simp at hi; subst hi; exact ⟨x, rfl, h.1⟩
    | succ i => simp at hi; simpa using h2 i o' hi

/-- In the text's order. -/
theorem ops_sim (hEQ : ∀ t ∈ EQ, EqLaw P t) (hc : CallingH P call) {ops : Array Oper} {Q : Exit → Act → World → Prop} {sf : Env × Hp} (hQ : ∀ C' φ' a' w', St n C0 φ0 h0 w0 C' φ' sf a' w' → Q .normal a' w') :
    ∀ (os : List Oper) (xs : List AOper) (i : Nat) (s : Env × Hp) (C : Pub) (φ : Phi) (a : Act) (w : World), (∀ (j : Nat) o, os[j]? = some o → ops[i + j]? = some o) → chkOps P EQ n ops os xs = true → St n C0 φ0 h0 w0 C φ s a w → steps call xs s = some sf →
      wpOps P ops Q (List.range' i os.length) a w
  | [], [], i, s, C, φ, a, w, _, _, h, hs => by
    simp [steps] at hs; subst hs
    simp only [List.length_nil, List.range'_zero, wpOps]
    exact hQ C φ a w h
  | [], _ :: _, _, _, _, _, _, _, _, hk, _, _ => by simp [chkOps] at hk
  | _ :: _, [], _, _, _, _, _, _, _, hk, _, _ => by simp [chkOps] at hk
  | o :: os, x :: xs, i, s, C, φ, a, w, hi, hk, h, hs => by
    simp only [chkOps, Bool.and_eq_true] at hk
    simp only [steps] at hs
    split at hs <;> try (simp at hs; done)
    rename_i s1 hs1
    rw [List.length_cons, List.range'_succ, wpOps_cons]
    exact op_sim hEQ hc (by simpa using hi 0 o rfl) hk.1 h hs1 fun C' φ' a' w' h' => ops_sim hEQ hc hQ os xs (i + 1) s1 C' φ' a' w' (fun j o' hj => by have := hi (j + 1) o' (by simpa using hj); rwa [show i + 1 + j = i + (j + 1) by omega]) hk.2 h' hs

-- ------------------------------------------------------------ whatever order
def rdS : AOpd → List Nat | .t i => [i] | .tk i => [i] | _ => []
def wrS : AOpd → List Nat | .tk i => [i] | _ => []
def AOper.reads (o : AOper) : List Nat := (match o.g with | some (t, _) => [t] | none => []) ++ o.xs.flatMap rdS
def AOper.writes (o : AOper) : List Nat := (match o.dst with | some d => [d] | none => []) ++ o.xs.flatMap wrS

theorem rd_local (x : AOpd) (e e' : Env) (h : ∀ t ∈ rdS x, e' t = e t) : (rd e' x).1 = (rd e x).1 ∧ (∀ t ∈ wrS x, (rd e' x).2 t = (rd e x).2 t) ∧ (∀ t, t ∉ wrS x → (rd e' x).2 t = e' t ∧ (rd e x).2 t = e t) := by
  cases x with
  | t i => exact ⟨by simp [rd, h i (by simp [rdS])], by simp [wrS], fun t _ => ⟨rfl, rfl⟩⟩
  | tk i => refine ⟨by simp [rd, h i (by simp [rdS])], fun t ht => ?_, fun t ht => ?_⟩
            · simp [wrS] at ht; subst ht; simp [rd, upd, h t (by simp [rdS])]
            · simp [wrS] at ht; simp [rd, upd, ht]
  | c v => exact ⟨rfl, by simp [wrS], fun t _ => ⟨rfl, rfl⟩⟩
  | f i => exact ⟨rfl, by simp [wrS], fun t _ => ⟨rfl, rfl⟩⟩

/-- Reading hangs on the slots that are read alone. -/
theorem rds_local : ∀ (xs : List AOpd) (e e' : Env), (∀ t ∈ xs.flatMap rdS, e' t = e t) → (rds e' xs).1 = (rds e xs).1 ∧ (∀ t ∈ xs.flatMap wrS, (rds e' xs).2 t = (rds e xs).2 t) ∧ (∀ t, t ∉ xs.flatMap wrS → (rds e' xs).2 t = e' t ∧ (rds e xs).2 t = e t)
  | [], e, e', _ => ⟨rfl, by simp, fun t _ => ⟨rfl, rfl⟩⟩
  | x :: xs, e, e', h => by
    obtain ⟨a1, a2, a3⟩ := rd_local x e e' (fun t ht => h t (by simp [ht]))
    have hag : ∀ t ∈ xs.flatMap rdS, (rd e' x).2 t = (rd e x).2 t := by
      intro t ht
      by_cases hw : t ∈ wrS x
      · exact a2 t hw
      · rw [(a3 t hw).1, (a3 t hw).2]; exact h t (by simp only [List.flatMap_cons, List.mem_append]; exact .inr ht)
    obtain ⟨b1, b2, b3⟩ := rds_local xs (rd e x).2 (rd e' x).2 hag
    have hr : ∀ e : Env, rds e (x :: xs) = ((rd e x).1 :: (rds (rd e x).2 xs).1, (rds (rd e x).2 xs).2) := fun e => rfl
    rw [hr, hr]
    refine ⟨by simp [a1, b1], fun t ht => ?_, fun t ht => ?_⟩
    · by_cases hw : t ∈ xs.flatMap wrS
      · exact b2 t hw
      · have hwx : t ∈ wrS x := by simp only [List.flatMap_cons, List.mem_append] at ht; exact ht.resolve_right hw
        show (rds (rd e' x).2 xs).2 t = (rds (rd e x).2 xs).2 t
        rw [(b3 t hw).1, (b3 t hw).2]; exact a2 t hwx
    · simp only [List.flatMap_cons, List.mem_append, not_or] at ht
      show (rds (rd e' x).2 xs).2 t = e' t ∧ (rds (rd e x).2 xs).2 t = e t
      rw [(b3 t ht.2).1, (b3 t ht.2).2]; exact a3 t ht.1

theorem updO_at (e : Env) (d : Option Nat) (v : AV) (t : Nat) : updO e d v t = if d = some t then v else e t := by
  cases d with
  | none => simp [updO]
  | some d => simp only [updO, upd, Option.some.injEq]; by_cases h : t = d
              · simp [h]
              · rw [if_neg h, if_neg (fun h' => h h'.symm)]

def NK.hw : NK → Bool
  | .hnew _ | .hbox | .hst _ | .hcall _ | .hcallV | .hmk _ _ _ | .x _ => true
  | _ => false
def NK.hr : NK → Bool
  | .hld _ _ => true
  | _ => false
theorem semH_still {call : CallH} {k : NK} (hk : k.hw = false) {xs : List AV} {h h1 : Hp} {v : AV} (hs : semH call k xs h = some (v, h1)) : h1 = h ∧ (k.hr = false → ∀ h', semH call k xs h' = some (v, h')) := by
  by_cases hH : k.isH = true
  · cases k <;> simp [NK.isH] at hH <;> simp [NK.hw] at hk
    simp only [semH] at hs
    refine ⟨?_, by simp [NK.hr]⟩
    unfold hLd at hs
    split at hs
    · split at hs <;> try (simp at hs; done)
      split at hs
      · split at hs <;> simp at hs; exact hs.2.symm
      · split at hs <;> simp at hs; exact hs.2.symm
    · split at hs <;> simp at hs; exact hs.2.symm
    · simp at hs
  · have hH : k.isH = false := by simpa using hH
    rw [semH_pure hH] at hs
    refine ⟨?_, fun _ h' => ?_⟩
    · split at hs <;> split at hs <;> simp at hs <;> exact hs.2.symm
    · rw [semH_pure hH]
      split at hs <;> split at hs <;> simp at hs <;> rename_i hp _ _ hr
      · obtain ⟨rfl, _⟩ := hs; rw [if_pos hp]
      · obtain ⟨rfl, _⟩ := hs; rw [if_neg hp]

/-- A step hangs on the slots that it reads, and turns those that it writes. -/
theorem step_local {o : AOper} {e e1 : Env} {h h1 : Hp} (hs : step call o (e, h) = some (e1, h1)) (e' : Env) (h' : Hp) (hag : ∀ t ∈ o.reads, e' t = e t) (hh : o.k.hw = true ∨ o.k.hr = true → h' = h) :
    (∃ e1', step call o (e', h') = some (e1', if o.k.hw then h1 else h') ∧ (∀ t ∈ o.writes, e1' t = e1 t ∨ (e1' t = e' t ∧ e1 t = e t)) ∧ (∀ t, t ∉ o.writes → e1' t = e' t)) ∧ (∀ t, t ∉ o.writes → e1 t = e t) ∧ (o.k.hw = false → h1 = h) := by
  have hgo : ∀ {e1 h1}, stepGo call o (e, h) = some (e1, h1) → (∃ e1', stepGo call o (e', h') = some (e1', if o.k.hw then h1 else h') ∧ (∀ t ∈ o.writes, e1' t = e1 t ∨ (e1' t = e' t ∧ e1 t = e t)) ∧ (∀ t, t ∉ o.writes → e1' t = e' t)) ∧ (∀ t, t ∉ o.writes → e1 t = e t) ∧ (o.k.hw = false → h1 = h) := by
    intro e1 h1 hs
    obtain ⟨b1, b2, b3⟩ := rds_local o.xs e e' (fun t ht => hag t (by simp only [AOper.reads, List.mem_append]; exact .inr ht))
    unfold stepGo at hs ⊢
    simp only at hs ⊢
    split at hs <;> simp at hs
    rename_i v hv' hv
    obtain ⟨rfl, rfl⟩ := hs
    have hv2 : semH call o.k (rds e o.xs).1 h' = some (v, if o.k.hw then hv' else h') := by
      cases hw : o.k.hw with
      | true => rw [hh (.inl hw)]; simpa using hv
      | false =>
        have hst := semH_still hw hv
        cases hrr : o.k.hr with
        | true => rw [hh (.inr hrr)]; rw [hv, hst.1]; simp
        | false => rw [hst.2 hrr h']; simp
    rw [b1, hv2]
    refine ⟨⟨_, rfl, fun t ht => .inl ?_, fun t ht => ?_⟩, fun t ht => ?_, fun hw => (semH_still hw hv).1⟩
    · rw [updO_at, updO_at]
      by_cases hd : o.dst = some t
      · rw [if_pos hd, if_pos hd]
      · rw [if_neg hd, if_neg hd]
        refine b2 t ?_
        simp only [AOper.writes, List.mem_append] at ht
        refine ht.resolve_left ?_
        intro hm; split at hm <;> simp at hm
        rename_i d hd'; exact hd (by rw [hd', hm])
    · simp only [AOper.writes, List.mem_append, not_or] at ht
      rw [updO_at, if_neg (fun hd => ht.1 (by rw [hd]; simp))]
      exact (b3 t ht.2).1
    · simp only [AOper.writes, List.mem_append, not_or] at ht
      rw [updO_at, if_neg (fun hd => ht.1 (by rw [hd]; simp))]
      exact (b3 t ht.2).2
  have hskip : some (updO e o.dst (.tup []), h) = some (e1, h1) → (∃ e1', some (updO e' o.dst (.tup []), h') = some (e1', if o.k.hw then h1 else h') ∧ (∀ t ∈ o.writes, e1' t = e1 t ∨ (e1' t = e' t ∧ e1 t = e t)) ∧ (∀ t, t ∉ o.writes → e1' t = e' t)) ∧ (∀ t, t ∉ o.writes → e1 t = e t) ∧ (o.k.hw = false → h1 = h) := by
    intro hs
    simp only [Option.some.injEq, Prod.mk.injEq] at hs
    obtain ⟨rfl, rfl⟩ := hs
    have hn : ∀ t, t ∉ o.writes → o.dst ≠ some t := by
      intro t ht hd; exact ht (by simp [AOper.writes, hd])
    have hh2 : (if o.k.hw then h else h') = h' := by
      cases hw : o.k.hw with
      | true => simpa using (hh (.inl hw)).symm
      | false => simp
    rw [hh2]
    refine ⟨⟨_, rfl, fun t ht => ?_, fun t ht => ?_⟩, fun t ht => ?_, fun _ => rfl⟩
    · rw [updO_at, updO_at]
      by_cases hd : o.dst = some t
      · left; rw [if_pos hd, if_pos hd]
      · right; rw [if_neg hd, if_neg hd]; exact ⟨rfl, rfl⟩
    · rw [updO_at, if_neg (hn t ht)]
    · rw [updO_at, if_neg (hn t ht)]
  unfold step at hs ⊢
  cases hg : o.g with
  | none => rw [hg] at hs; exact hgo hs
  | some g =>
    obtain ⟨t, want⟩ := g
    rw [hg] at hs
    have ht : e' t = e t := hag t (by simp [AOper.reads, hg])
    simp only at hs ⊢
    rw [ht]
    generalize e t = u at hs ⊢
    cases u with
    | bool b =>
      simp only at hs ⊢
      by_cases hb : b = want
      · rw [if_pos hb] at hs; simp only [if_pos hb]; exact hgo hs
      · rw [if_neg hb] at hs; simp only [if_neg hb]; exact hskip hs
    | tup l =>
      cases l with
      | nil => simp only at hs ⊢; exact hskip hs
      | cons _ _ => simp at hs
    | _ => simp at hs

def disjB (xs ys : List Nat) : Bool := xs.all fun x => !ys.contains x
theorem disjB_spec {xs ys : List Nat} (h : disjB xs ys = true) : ∀ t ∈ xs, t ∉ ys := by
  intro t ht; simp only [disjB, List.all_eq_true] at h; simpa using h t ht
def apartH (a b : NK) : Bool := !(a.hw && (b.hw || b.hr)) && !(a.hr && b.hw)
def indepB (a b : AOper) : Bool := disjB a.writes b.reads && disjB a.writes b.writes && disjB b.writes a.reads && apartH a.k b.k

/-- Two steps that don't touch one another may change their places. -/
theorem step_comm {x y : AOper} (hi : indepB x y = true) {s s1 s2 : Env × Hp} (h1 : step call x s = some s1) (h2 : step call y s1 = some s2) :
    ∃ s1', step call y s = some s1' ∧ step call x s1' = some s2 := by
  obtain ⟨e, h⟩ := s; obtain ⟨e1, hh1⟩ := s1; obtain ⟨e2, hh2⟩ := s2
  simp only [indepB, Bool.and_eq_true] at hi
  have d1 := disjB_spec hi.1.1.1
  have d2 := disjB_spec hi.1.1.2
  have d3 := disjB_spec hi.1.2
  have d4 := hi.2
  have hx0 := step_local h1 e h (fun _ _ => rfl) (fun _ => rfl)
  have k1 := hx0.2.1
  have hyh : y.k.hw = true ∨ y.k.hr = true → h = hh1 := by
    intro hy
    refine (hx0.2.2 ?_).symm
    cases hxw : x.k.hw with
    | false => rfl
    | true => exfalso; simp only [apartH, hxw, Bool.true_and, Bool.and_eq_true, Bool.not_eq_true'] at d4; rcases hy with hy | hy <;> simp [hy] at d4
  obtain ⟨⟨e1', hy, hy1, hy2⟩, hy3, hy4⟩ := step_local h2 e h (fun t ht => (k1 t (fun hw => d1 t hw ht)).symm) hyh
  have hxh : x.k.hw = true ∨ x.k.hr = true → (if y.k.hw then hh2 else h) = h := by
    intro hx
    cases hyw : y.k.hw with
    | false => simp
    | true => exfalso; simp only [apartH, hyw, Bool.true_or, Bool.and_true, Bool.and_eq_true, Bool.not_eq_true'] at d4; rcases hx with hx | hx <;> simp [hx] at d4
  obtain ⟨⟨e2', hx, hx1, hx2⟩, _, _⟩ := step_local h1 e1' (if y.k.hw then hh2 else h) (fun t ht => hy2 t (fun hw => d3 t hw ht)) hxh
  refine ⟨_, hy, ?_⟩
  rw [hx]
  have hheap : (if x.k.hw then hh1 else (if y.k.hw then hh2 else h)) = hh2 := by
    cases hxw : x.k.hw with
    | true =>
      have hyw : y.k.hw = false := by
        cases hyw : y.k.hw with
        | false => rfl
        | true => exfalso; simp [apartH, hxw, hyw] at d4
      simpa using (hy4 hyw).symm
    | false =>
      cases hyw : y.k.hw with
      | true => simp
      | false => simp; rw [hy4 hyw, hx0.2.2 hxw]
  rw [hheap]
  congr 2
  funext t
  by_cases hwx : t ∈ x.writes
  · have hwy : t ∉ y.writes := d2 t hwx
    rw [hy3 t hwy]
    rcases hx1 t hwx with h | ⟨h, h'⟩
    · exact h
    · rw [h, h', hy2 t hwy]
  · rw [hx2 t hwx]
    by_cases hwy : t ∈ y.writes
    · rcases hy1 t hwy with h | ⟨h, h'⟩
      · exact h
      · rw [h, h', k1 t hwx]
    · rw [hy2 t hwy, hy3 t hwy, k1 t hwx]

/-- Steps by their numbers. -/
def stepsI (call : CallH) (xs : List AOper) : List Nat → Env × Hp → Option (Env × Hp)
  | [], e => some e
  | i :: is, e => match xs[i]? with
    | some x => (match step call x e with | some e1 => stepsI call xs is e1 | none => none)
    | none => none
theorem stepsI_range (xs : List AOper) : ∀ (ys : List AOper) (i : Nat) (e : Env × Hp), (∀ (j : Nat) y, ys[j]? = some y → xs[i + j]? = some y) → stepsI call xs (List.range' i ys.length) e = steps call ys e
  | [], i, e, _ => rfl
  | y :: ys, i, e, h => by
    simp only [List.length_cons, List.range'_succ, stepsI, steps]
    rw [show xs[i]? = some y by simpa using h 0 y rfl]
    simp only
    cases step call y e with
    | none => rfl
    | some e1 => exact stepsI_range xs ys (i + 1) e1 fun j z hj => by have := h (j + 1) z (by simpa using hj); rwa [show i + 1 + j = i + (j + 1) by omega]
theorem stepsI_bubble {xs : List AOper} {i : Nat} {x : AOper} (hx : xs[i]? = some x) : ∀ (pre post : List Nat) (e ef : Env × Hp), (∀ j ∈ pre, ∀ y, xs[j]? = some y → indepB y x = true) → stepsI call xs (pre ++ i :: post) e = some ef →
    ∃ e1, step call x e = some e1 ∧ stepsI call xs (pre ++ post) e1 = some ef
  | [], post, e, ef, _, h => by
    simp only [List.nil_append, stepsI, hx] at h
    split at h <;> try (simp at h; done)
    rename_i e1 he1
    exact ⟨e1, he1, h⟩
  | j :: pre, post, e, ef, hind, h => by
    simp only [List.cons_append, stepsI] at h
    split at h <;> try (simp at h; done)
    rename_i y hy
    split at h <;> try (simp at h; done)
    rename_i e1 he1
    obtain ⟨e2, h2, h3⟩ := stepsI_bubble hx pre post e1 ef (fun k hk => hind k (by simp [hk])) h
    obtain ⟨e1', h4, h5⟩ := step_comm (hind j (by simp) y hy) he1 h2
    refine ⟨e1', h4, ?_⟩
    simp only [List.cons_append, stepsI, hy, h5]
    exact h3

def bindsOf (o : Oper) : List Nat := (o.after.toList.filter fun e => Region.binds .any e).map (·.on)
/-- What stands ahead of each operation. -/
def befs : List Oper → List (List Nat) → List (List Nat)
  | [], acc => acc
  | o :: os, acc => befs os (acc ++ [((bindsOf o).flatMap fun j => j :: acc.getD j []).eraseDups])
theorem befs_sound (ops : List Oper) (L : Nat → Prop) (hL : ∀ k o, ops[k]? = some o → L k → ∀ j ∈ bindsOf o, L j) : ∀ (os : List Oper) (acc : List (List Nat)), (∀ (j : Nat) o, os[j]? = some o → ops[acc.length + j]? = some o) →
    (∀ k o, k < acc.length → ops[k]? = some o → (∀ j ∈ bindsOf o, L j) → ∀ j ∈ acc.getD k [], L j) → (∀ k, k < acc.length → ∃ o, ops[k]? = some o) →
    ∀ k o, k < (befs os acc).length → ops[k]? = some o → (∀ j ∈ bindsOf o, L j) → ∀ j ∈ (befs os acc).getD k [], L j
  | [], acc, _, h, _ => h
  | o :: os, acc, ho, h, hex => by
    have hme : ops[acc.length]? = some o := by simpa using ho 0 o rfl
    refine befs_sound ops L hL os _ (fun j o' hj => ?_) ?_ ?_
    · have := ho (j + 1) o' (by simpa using hj)
      rw [List.length_append, List.length_singleton, show acc.length + 1 + j = acc.length + (j + 1) by omega]; exact this
    · intro k o' hk ho' hb j hj
      rw [List.length_append, List.length_singleton] at hk
      rcases Nat.lt_or_ge k acc.length with hlt | hge
      · rw [List.getD_eq_getElem?_getD, List.getElem?_append_left hlt, ← List.getD_eq_getElem?_getD] at hj
        exact h k o' hlt ho' hb j hj
      · have hk' : k = acc.length := by omega
        subst hk'
        rw [List.getD_eq_getElem?_getD, List.getElem?_append_right (Nat.le_refl _)] at hj
        simp only [Nat.sub_self, List.getElem?_cons_zero, Option.getD_some, List.mem_eraseDups, List.mem_flatMap, List.mem_cons] at hj
        rw [hme] at ho'; cases ho'
        obtain ⟨b, hb1, hb2⟩ := hj
        have hLb := hb b hb1
        rcases hb2 with rfl | hb2
        · exact hLb
        · rcases Nat.lt_or_ge b acc.length with hlt | hge'
          · obtain ⟨ob, hob⟩ := hex b hlt
            exact h b ob hlt hob (hL b ob hob hLb) j hb2
          · rw [List.getD_eq_getElem?_getD, List.getElem?_eq_none hge'] at hb2; simp at hb2
    · intro k hk
      rw [List.length_append, List.length_singleton] at hk
      rcases Nat.lt_or_ge k acc.length with hlt | hge
      · exact hex k hlt
      · have hk' : k = acc.length := by omega
        subst hk'; exact ⟨o, hme⟩
theorem befs_length : ∀ (os : List Oper) (acc : List (List Nat)), (befs os acc).length = acc.length + os.length
  | [], acc => rfl
  | o :: os, acc => by rw [befs, befs_length os]; simp; omega

/-- May the operations come in whatever order the edges allow? -/
def drawOk (ops : List Oper) (xs : List AOper) : Bool :=
  let B := befs ops []
  (List.range ops.length).all fun i => match ops[i]?, xs[i]? with
    | some o, some x => (bindsOf o).all (fun j => decide (j < i)) && (List.range i).all fun j => (B.getD i []).contains j || (match xs[j]? with | some y => indepB y x | none => false)
    | _, _ => false

theorem draw_sim (hEQ : ∀ t ∈ EQ, EqLaw P t) (hc : CallingH P call) {ops : Array Oper} {xs : List AOper} (hk : chkOps P EQ n ops ops.toList xs = true) (hd : drawOk ops.toList xs = true) {Q : Exit → Act → World → Prop} {ef : Env × Hp}
    (hQ : ∀ C' φ' a' w', St n C0 φ0 h0 w0 C' φ' ef a' w' → Q .normal a' w') :
    ∀ (fuel : Nat) (listed : Array Bool) (e : Env × Hp) (C : Pub) (φ : Phi) (a : Act) (w : World), listed.size = ops.size → (∀ k o, ops[k]? = some o → listed.getD k true = true → ∀ j ∈ bindsOf o, listed.getD j false = true) →
      ((List.range ops.size).filter fun i => !listed.getD i true).length ≤ fuel → stepsI call xs ((List.range ops.size).filter fun i => !listed.getD i true) e = some ef → St n C0 φ0 h0 w0 C φ e a w → wpAny P .any ops Q fuel listed a w := by
  obtain ⟨hlen, hget⟩ := chkOps_get hk
  have hlt_of : ∀ {k : Nat} {o : Oper}, ops[k]? = some o → k < ops.size := fun h => (Array.getElem?_eq_some_iff.1 h).1
  have hdraw : ∀ i o x, ops[i]? = some o → xs[i]? = some x → (∀ j ∈ bindsOf o, j < i) ∧ ∀ j, j < i → j ∈ (befs ops.toList []).getD i [] ∨ ∃ y, xs[j]? = some y ∧ indepB y x = true := by
    intro i o x ho hx
    unfold drawOk at hd
    simp only [List.all_eq_true, List.mem_range] at hd
    have := hd i (by simpa using hlt_of ho)
    simp only [Array.getElem?_toList, ho, hx, Bool.and_eq_true, List.all_eq_true, decide_eq_true_eq, List.mem_range, Bool.or_eq_true, List.contains_iff_mem] at this
    refine ⟨this.1, fun j hj => ?_⟩
    rcases this.2 j hj with h | h
    · exact .inl h
    · right; split at h
      · rename_i y hy; exact ⟨y, hy, h⟩
      · simp at h
  have hready : ∀ (listed : Array Bool), listed.size = ops.size → (∀ k o, ops[k]? = some o → listed.getD k true = true → ∀ j ∈ bindsOf o, listed.getD j false = true) → Region.ready .any ops listed = [] → ((List.range ops.size).filter fun i => !listed.getD i true) = [] := by
    intro listed hsz hcl hr
    cases hrem : (List.range ops.size).filter fun i => !listed.getD i true with
    | nil => rfl
    | cons i rest =>
      exfalso
      have hi : i ∈ (List.range ops.size).filter fun i => !listed.getD i true := by rw [hrem]; simp
      simp only [List.mem_filter, List.mem_range, Bool.not_eq_true'] at hi
      have hmin : ∀ j, j < i → listed.getD j true = true := by
        intro j hj
        cases hjl : listed.getD j true with
        | true => rfl
        | false =>
          exfalso
          have hjm : j ∈ (List.range ops.size).filter fun i => !listed.getD i true := List.mem_filter.2 ⟨List.mem_range.2 (Nat.lt_trans hj hi.1), by rw [hjl]; rfl⟩
          have hsorted : ((List.range ops.size).filter fun i => !listed.getD i true).Pairwise (· < ·) := List.Pairwise.filter _ List.pairwise_lt_range
          rw [hrem] at hjm hsorted
          simp only [List.mem_cons] at hjm
          rcases hjm with rfl | hjm
          · omega
          · have := (List.pairwise_cons.1 hsorted).1 j hjm; omega
      have ho : ops[i]? = some ops[i] := by simp [hi.1]
      obtain ⟨x, hx, _⟩ := hget i ops[i] (by simp)
      have : i ∈ Region.ready .any ops listed := by
        rw [mem_ready]
        refine ⟨hi.2, ops[i], ho, fun ed he hb => ?_⟩
        have hj : ed.on ∈ bindsOf ops[i] := by simp [bindsOf]; exact ⟨ed, ⟨by simpa using he, hb⟩, rfl⟩
        have hlt := (hdraw i _ x ho hx).1 _ hj
        have := hmin _ hlt
        have h3 : ed.on < listed.size := by rw [hsz]; omega
        simpa [h3] using this
      rw [hr] at this; cases this
  intro fuel
  induction fuel with
  | zero =>
    intro listed e C φ a w hsz hcl hf hs h
    have hnil := List.eq_nil_of_length_eq_zero (Nat.le_zero.1 hf)
    rw [hnil] at hs
    simp [stepsI] at hs; subst hs
    refine ⟨?_, hQ C φ a w h⟩
    rw [List.eq_nil_iff_forall_not_mem]
    intro i hi
    rw [mem_ready] at hi
    obtain ⟨h0, o, ho, _⟩ := hi
    have : i ∈ (List.range ops.size).filter fun i => !listed.getD i true := List.mem_filter.2 ⟨List.mem_range.2 (hlt_of ho), by rw [h0]; rfl⟩
    rw [hnil] at this; cases this
  | succ fuel ih =>
    intro listed e C φ a w hsz hcl hf hs h
    refine ⟨fun hr => ?_, fun i hi => ?_⟩
    · rw [hready listed hsz hcl hr] at hs
      simp [stepsI] at hs; subst hs
      exact hQ C φ a w h
    · obtain ⟨h0, o, ho, hall⟩ := mem_ready.1 hi
      have hil := hlt_of ho
      obtain ⟨x, hx, hkx⟩ := hget i o (by simpa using ho)
      have him : i ∈ (List.range ops.size).filter fun i => !listed.getD i true := List.mem_filter.2 ⟨List.mem_range.2 hil, by rw [h0]; rfl⟩
      obtain ⟨pre, post, hpp⟩ := List.append_of_mem him
      have hsorted : (pre ++ i :: post).Pairwise (· < ·) := by rw [← hpp]; exact List.Pairwise.filter _ List.pairwise_lt_range
      have hpre : ∀ j ∈ pre, j < i := fun j hj => (List.pairwise_append.1 hsorted).2.2 j hj i (by simp)
      have hind : ∀ j ∈ pre, ∀ y, xs[j]? = some y → indepB y x = true := by
        intro j hj y hy
        rcases (hdraw i o x ho hx).2 j (hpre j hj) with hb | ⟨y', hy', hi'⟩
        · exfalso
          have hLj := befs_sound ops.toList (fun k => listed.getD k false = true) (fun k o' ho' hk' j' hj' => by
              have hk2 : k < ops.size := hlt_of (by simpa using ho')
              have hk3 : k < listed.size := by rw [hsz]; exact hk2
              exact hcl k o' (by simpa using ho') (by simpa [hk3] using hk') j' hj') ops.toList [] (fun j o' ho' => by simpa using ho') (by simp) (by simp) i o (by rw [befs_length]; simpa using hil) (by simpa using ho)
            (fun j' hj' => by
              simp only [bindsOf, List.mem_map, List.mem_filter] at hj'
              obtain ⟨ed, ⟨he1, he2⟩, rfl⟩ := hj'
              exact hall ed (by simpa using he1) he2) j hb
          have hjm : j ∈ (List.range ops.size).filter fun i => !listed.getD i true := by rw [hpp]; simp [hj]
          simp only [List.mem_filter, List.mem_range, Bool.not_eq_true'] at hjm
          have hj3 : j < listed.size := by rw [hsz]; exact hjm.1
          have h1 := hjm.2
          simp [hj3] at h1 hLj
          rw [h1] at hLj; cases hLj
        · rw [hy] at hy'; cases hy'; exact hi'
      rw [hpp] at hs
      obtain ⟨e1, he1, hs1⟩ := stepsI_bubble hx pre post e ef hind hs
      have hil' : i < listed.size := by rw [hsz]; exact hil
      have hrem : ((List.range ops.size).filter fun k => !(listed.setIfInBounds i true).getD k true) = pre ++ post := by
        have h1 : ((List.range ops.size).filter fun k => !(listed.setIfInBounds i true).getD k true) = ((List.range ops.size).filter fun k => !listed.getD k true).filter fun k => k != i := by
          rw [List.filter_filter]
          apply List.filter_congr
          intro k hk
          by_cases hki : k = i
          · subst hki; simp [hil']
          · rw [getD_set_ne true (Ne.symm hki)]; simp [hki]
        rw [h1, hpp, List.filter_append, List.filter_cons]
        have hnd : (pre ++ i :: post).Nodup := hsorted.imp (fun h => Nat.ne_of_lt h)
        have hp1 : pre.filter (fun k => k != i) = pre := List.filter_eq_self.2 fun k hk => by have := hpre k hk; simp; omega
        have hp2 : post.filter (fun k => k != i) = post := List.filter_eq_self.2 fun k hk => by
          have := (List.pairwise_cons.1 (List.pairwise_append.1 hsorted).2.1).1 k hk; simp; omega
        rw [hp1, hp2]; simp
      refine op_sim hEQ hc ho hkx h he1 fun C' φ' a' w' h' => ih (listed.setIfInBounds i true) e1 C' φ' a' w' (by simp [hsz]) ?_ ?_ ?_ h'
      · intro k o' ho' hk' j hj
        by_cases hki : k = i
        · subst hki
          rw [ho] at ho'; cases ho'
          simp only [bindsOf, List.mem_map, List.mem_filter] at hj
          obtain ⟨ed, ⟨he1', he2'⟩, rfl⟩ := hj
          exact getD_set_true (hall ed (by simpa using he1') he2')
        · rw [getD_set_ne true (Ne.symm hki)] at hk'
          exact getD_set_true (hcl k o' ho' hk' j hj)
      · rw [hrem]
        have := congrArg List.length hpp
        simp at this hf ⊢; omega
      · rw [hrem]; exact hs1

end
end Go.Vm
