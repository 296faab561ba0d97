/- One step: a frame's slots against the abstract machine's. -/
import Derived.Test.YtacifbbmfkampaaDoorVmV
namespace Go.Vm
open Go.RowKit
set_option linter.unusedVariables false
set_option linter.unusedSimpArgs false
set_option linter.unusedSectionVars false
variable [Glob]

def chkOpd : Operand → AOpd → Bool
  | .tmp t, .t i => t == i
  | .tmp t, .tk i => t == i
  | .const v, .c x => constV x v
  | .func f, .f i => f == i
  | _, _ => false
def chkOpds : List Operand → List AOpd → Bool
  | [], [] => true
  | x :: xs, y :: ys => chkOpd x y && chkOpds xs ys
  | _, _ => false
def chkG (ops : Array Oper) (g : Option (Nat × Bool)) (g' : Option (Nat × Bool)) : Bool :=
  match g, g' with
  | none, none => true
  | some (j, want), some (t, want') => want == want' && (ops[j]?).bind (·.dst) == some t
  | _, _ => false
def chkIni (P : Program) (o : Oper) (ao : AOper) : Bool :=
  match ao.k, o.op, ao.xs, o.guard with
  | .ini n, .store t (.tmp p) x, [.tk p', y], none => o.dst == none && p == p' && ao.dst == some p && chkOpd x y && sizeB P t == some n && ao.g == none
  | _, _, _, _ => false
def ltO (n : Nat) : Option Nat → Bool | some d => decide (d < n) | none => true
def chkOper (P : Program) (EQ : List TypeId) (n : Nat) (ops : Array Oper) (o : Oper) (ao : AOper) : Bool :=
  ltO n ao.dst && (chkIni P o ao ||
  (match chkN P EQ o ao.k with
    | some xs => chkOpds xs ao.xs && o.dst == ao.dst && chkG ops o.guard ao.g
    | none => false))

def tv (a : Act) (t : Nat) : Value := a.tmps.getD t undef

/-- A frame's state. -/
structure St (n : Nat) (C0 : Pub) (φ0 : Phi) (h0 : Hp) (w0 : World) (C : Pub) (φ : Phi) (s : Env × Hp) (a : Act) (w : World) : Prop where
  size : a.tmps.size = n
  defers : a.defers = []
  ext : Ext (HB φ0 h0.nx) C0 w0 C w
  vt : ∀ t, VT C φ (s.1 t) (tv a t)
  own : ∀ t, ownP C w w0.heap.size (s.1 t) (tv a t)
  nodup : ∀ t, (blks (s.1 t) (tv a t)).Nodup
  disj : ∀ t t', t ≠ t' → ∀ b ∈ blks (s.1 t) (tv a t), b ∉ blks (s.1 t') (tv a t')
  hr : HR C φ w s.2
  apart : ∀ t, ∀ b ∈ blks (s.1 t) (tv a t), ∀ id, φ id ≠ some b
  agr : ∀ id, id < h0.nx → φ id = φ0 id
  new : ∀ id b, h0.nx ≤ id → φ id = some b → w0.heap.size ≤ b
  nx : h0.nx ≤ s.2.nx
  gl : Gl C

section
variable {P : Program} {n : Nat} {C0 C : Pub} {φ0 φ : Phi} {h0 h h' : Hp} {w0 w : World} {e : Env} {a : Act} {EQ : List TypeId} {call : CallH}

theorem blks_nil_of_share {x : AV} {v : Value} (h : x.share = x) : blks x v = [] := by rw [← h]; exact blks_share x v
theorem ownP_of_share {x : AV} {v : Value} {n0 : Nat} (h : x.share = x) : ownP C w n0 x v := by rw [← h]; exact ownP_share C w n0 x v

/-- Giving away what a slot owns. -/
theorem St.give (H : St n C0 φ0 h0 w0 C φ (e, h) a w) (i : Nat) : St n C0 φ0 h0 w0 C φ (upd e i (e i).share, h) a w := by
  have key : ∀ t, (upd e i (e i).share) t = e t ∨ ((upd e i (e i).share) t = (e t).share) := by
    intro t; unfold upd; split
    · rename_i ht; subst ht; exact .inr rfl
    · exact .inl rfl
  refine ⟨H.size, H.defers, H.ext, fun t => ?_, fun t => ?_, fun t => ?_, fun t t' hne b hb => ?_, H.hr, fun t b hb => ?_, H.agr, H.new, H.nx, H.gl⟩
  · show VT C φ (upd e i (e i).share t) _
    rcases key t with k | k <;> rw [k]
    · exact H.vt t
    · exact (H.vt t).share
  · show ownP C w _ (upd e i (e i).share t) _
    rcases key t with k | k <;> rw [k]
    · exact H.own t
    · exact ownP_share _ _ _ _ _
  · show (blks (upd e i (e i).share t) _).Nodup
    rcases key t with k | k <;> rw [k]
    · exact H.nodup t
    · rw [blks_share]; exact List.nodup_nil
  · show b ∉ blks (upd e i (e i).share t') _
    have hb : b ∈ blks (upd e i (e i).share t) (tv a t) := hb
    rcases key t with k | k <;> rw [k] at hb
    · rcases key t' with k' | k' <;> rw [k']
      · exact H.disj t t' hne b hb
      · rw [blks_share]; simp
    · rw [blks_share] at hb; simp at hb
  · have hb : b ∈ blks (upd e i (e i).share t) (tv a t) := hb
    rcases key t with k | k <;> rw [k] at hb
    · exact H.apart t b hb
    · rw [blks_share] at hb; simp at hb

theorem constV_own {x : AV} {v : Value} (h : constV x v = true) : blks x v = [] ∧ ∀ (n0 : Nat), ownP C w n0 x v := by
  unfold constV at h
  split at h <;> simp at h
  case h_5 o k =>
    refine ⟨?_, fun n0 => ?_⟩
    · cases o <;> simp [blks, comps, blk1, Value.ownBlock]
    · intro p hp
      simp only [comps, List.mem_singleton] at hp
      subst hp
      cases o
      · exact trivial
      · exact ⟨0, [], World.ownsRow_nil w n0 0 k, by simp [Value.ownBlock]⟩
  all_goals exact ⟨blks_nil_of_share rfl, fun n0 => ownP_of_share rfl⟩

/-- Reading operands. -/
theorem rds_sim : ∀ (xs : List Operand) (axs : List AOpd) (e : Env), St n C0 φ0 h0 w0 C φ (e, h) a w → chkOpds xs axs = true →
    VTs C φ (rds e axs).1 (xs.map a.eval) ∧ (∀ (i : Nat) x v, (rds e axs).1[i]? = some x → (xs.map a.eval)[i]? = some v → ownP C w w0.heap.size x v) ∧
    (blksL (rds e axs).1 (xs.map a.eval)).Nodup ∧ St n C0 φ0 h0 w0 C φ ((rds e axs).2, h) a w ∧
    (∀ b ∈ blksL (rds e axs).1 (xs.map a.eval), ∃ t, b ∈ blks (e t) (tv a t)) ∧
    (∀ t b, b ∈ blks ((rds e axs).2 t) (tv a t) → b ∈ blks (e t) (tv a t)) ∧
    (∀ t b, b ∈ blks ((rds e axs).2 t) (tv a t) → b ∉ blksL (rds e axs).1 (xs.map a.eval))
  | [], [], e, h, _ => ⟨VTs.nil, by simp [rds], by simp [rds, blksL], h, by simp [rds, blksL], fun t b hb => hb, by simp [rds, blksL]⟩
  | [], _ :: _, _, _, hc => by simp [chkOpds] at hc
  | _ :: _, [], _, _, hc => by simp [chkOpds] at hc
  | x :: xs, y :: ys, e, H, hc => by
    simp only [chkOpds, Bool.and_eq_true] at hc
    obtain ⟨hx, hxs⟩ := hc
    -- the first one
    have first : ∃ v e1, rd e y = (v, e1) ∧ VT C φ v (a.eval x) ∧ ownP C w w0.heap.size v (a.eval x) ∧ (blks v (a.eval x)).Nodup ∧ St n C0 φ0 h0 w0 C φ (e1, h) a w ∧
        (∀ b ∈ blks v (a.eval x), ∃ t, b ∈ blks (e t) (tv a t)) ∧ (∀ t b, b ∈ blks (e1 t) (tv a t) → b ∈ blks (e t) (tv a t)) ∧ (∀ t b, b ∈ blks (e1 t) (tv a t) → b ∉ blks v (a.eval x)) := by
      unfold chkOpd at hx
      split at hx <;> try (simp at hx; done)
      · rename_i t i
        have hx : t = i := by simpa using hx
        subst hx
        exact ⟨_, _, rfl, (H.vt t).share, ownP_share _ _ _ _ _, by rw [blks_share]; simp, H, by rw [blks_share]; simp, fun _ _ hb => hb, by intro t' b _; show b ∉ blks (e t).share _; rw [blks_share]; simp⟩
      · rename_i t i
        have hx : t = i := by simpa using hx
        subst hx
        refine ⟨_, _, rfl, H.vt t, H.own t, H.nodup t, H.give t, fun b hb => ⟨t, hb⟩, fun t' b hb => ?_, fun t' b hb => ?_⟩
        · unfold upd at hb
          split at hb
          · rw [blks_share] at hb; simp at hb
          · exact hb
        · unfold upd at hb
          split at hb
          · rw [blks_share] at hb; simp at hb
          · rename_i hne; exact H.disj t' t hne b hb
      · rename_i v c
        obtain ⟨k1, k2⟩ := constV_own (C := C) (w := w) hx
        exact ⟨_, _, rfl, .pure (constV_sound hx), k2 _, by show (blks c v).Nodup; rw [k1]; simp, H, by show ∀ b ∈ blks c v, _; rw [k1]; simp, fun _ _ hb => hb, by intro t b _; show b ∉ blks c v; rw [k1]; simp⟩
      · rename_i f i
        have hx : f = i := by simpa using hx
        subst hx
        exact ⟨_, _, rfl, .pure (VR.fn_mk (vs := []) VRs.nil), ownP_of_share rfl, by rw [blks_nil_of_share rfl]; simp, H, by rw [blks_nil_of_share rfl]; simp, fun _ _ hb => hb, by intro t b _; rw [blks_nil_of_share rfl]; simp⟩
    obtain ⟨v, e1, hrd, f1, f2, f3, f4, f5, f6, f7⟩ := first
    obtain ⟨g1, g2, g3, g4, g5, g6, g7⟩ := rds_sim xs ys e1 f4 hxs
    have hr1 : (rds e (y :: ys)).1 = v :: (rds e1 ys).1 := by simp [rds, hrd]
    have hr2 : (rds e (y :: ys)).2 = (rds e1 ys).2 := by simp [rds, hrd]
    have hap : ∀ b ∈ blks v (a.eval x), b ∉ blksL (rds e1 ys).1 (xs.map a.eval) := fun b hb hb' => by
      obtain ⟨t, ht⟩ := g5 b hb'
      exact f7 t b ht hb
    rw [hr1, hr2]
    refine ⟨VTs.cons f1 g1, ?_, ?_, g4, ?_, fun t b hb => f6 t b (g6 t b hb), ?_⟩
    · intro i z u hz hu
      cases i with
      | zero => simp only [List.getElem?_cons_zero, List.map_cons, Option.some.injEq] at hz hu; subst hz; subst hu; exact f2
      | succ i => simp only [List.getElem?_cons_succ, List.map_cons] at hz hu; exact g2 i z u hz hu
    · simp only [List.map_cons, blksL]
      exact List.nodup_append.2 ⟨f3, g3, fun b hb c hc hbc => by subst hbc; exact hap b hb hc⟩
    · intro b hb
      simp only [List.map_cons, blksL, List.mem_append] at hb
      rcases hb with hb | hb
      · exact f5 b hb
      · obtain ⟨t, ht⟩ := g5 b hb; exact ⟨t, f6 t b ht⟩
    · intro t b hb hb'
      simp only [List.map_cons, blksL, List.mem_append] at hb'
      rcases hb' with hb' | hb'
      · exact f7 t b (g6 t b hb) hb'
      · exact g7 t b hb hb'

theorem tv_put_same {d : Nat} {v : Value} (h : d < a.tmps.size) : tv (a.put (some d) v) d = v := by
  simp [tv, Act.put, h]
theorem tv_put_other {d t : Nat} {v : Value} (h : t ≠ d) : tv (a.put (some d) v) t = tv a t := by
  simp [tv, Act.put, Array.getElem?_setIfInBounds_ne (Ne.symm h)]

theorem Ext.trans {Bs Bs0} {C1 C2 : Pub} {w1 w2 : World} (h : Ext Bs0 C0 w0 C1 w1) (k : Ext Bs C1 w1 C2 w2) (hB : ∀ b ∈ Bs, b ∈ Bs0 ∨ w0.heap.size ≤ b) : Ext Bs0 C0 w0 C2 w2 := by
  refine ⟨k.os.trans h.os, k.tape.trans h.tape, k.output.trans h.output, Nat.le_trans h.size k.size, fun b hb hn => ?_, fun b o v hv => k.mono b o v (h.mono b o v hv), k.wd⟩
  have h1 := h.old b hb hn
  have h2 := k.old b (Nat.lt_of_lt_of_le hb h.size) (fun hm => by rcases hB b hm with h3 | h3; exact hn h3; omega)
  exact ⟨h2.1.trans h1.1, fun o => (h2.2 o).trans (h1.2 o)⟩

/-- The state behind an operation. -/
theorem St.next {Bs : List Nat} {w' : World} {r : AV} {v : Value} {d : Option Nat} {a' : Act}
    (H : St n C0 φ0 h0 w0 C φ (e, h) a w) (hd : ltO n d = true) (hB : ∀ t b, b ∈ blks (e t) (tv a t) → b ∉ Bs) (hB0 : ∀ b ∈ Bs, w0.heap.size ≤ b)
    (hf : FinH w0.heap.size C φ w h Bs r v w' h') (hs : a'.tmps.size = n) (hdf : a'.defers = []) (ha : ∀ t, some t ≠ d → tv a' t = tv a t) (hv : ∀ t, d = some t → tv a' t = v) :
    ∃ C' φ', St n C0 φ0 h0 w0 C' φ' (updO e d r, h') a' w' := by
  obtain ⟨C', φ', f1, f2, f3, f4, f5, f6, f7, f8, f9⟩ := hf
  have hnx : h0.nx ≤ h.nx := H.nx
  have hold : ∀ t, some t ≠ d → (updO e d r) t = e t := by
    intro t ht; cases d with
    | none => rfl
    | some d => show (if t = d then r else e t) = e t; rw [if_neg]; intro he; subst he; exact ht rfl
  have hnew : ∀ t, d = some t → (updO e d r) t = r := by
    intro t ht; subst ht; simp [updO, upd]
  have hφ : ∀ id b, φ id = some b → φ' id = some b := by
    intro id b hid
    rcases Nat.lt_or_ge id h.nx with h1 | h1
    · rw [f4 id h1]; exact hid
    · rw [(H.hr.dom id h1).1] at hid; cases hid
  have hblk : ∀ t, ∀ b ∈ blks (e t) (tv a t), b ∉ Bs ++ HB φ h.nx := by
    intro t b hb hm
    rcases List.mem_append.1 hm with h1 | h1
    · exact hB t b hb h1
    · obtain ⟨id, _, hid⟩ := mem_HB.1 h1; exact H.apart t b hb id hid
  have hap' : ∀ t, ∀ b ∈ blks (e t) (tv a t), ∀ id, φ' id ≠ some b := by
    intro t b hb id hid
    have hlt := ((H.own t).lt b hb).2
    rcases Nat.lt_or_ge id h.nx with h1 | h1
    · rw [f4 id h1] at hid; exact H.apart t b hb id hid
    · have := f5 id b h1 hid; omega
  have hext := H.ext.trans f2 (fun b hb => by
    rcases List.mem_append.1 hb with h1 | h1
    · exact .inr (hB0 b h1)
    · obtain ⟨id, h2, hid⟩ := mem_HB.1 h1
      rcases Nat.lt_or_ge id h0.nx with h3 | h3
      · left; exact mem_HB.2 ⟨id, h3, by rw [← H.agr id h3]; exact hid⟩
      · exact .inr (H.new id b h3 hid))
  refine ⟨C', φ', hs, hdf, hext, fun t => ?_, fun t => ?_, fun t => ?_, fun t t' hne b hb => ?_, f3, fun t b hb => ?_, fun id hid => ?_, fun id b hid hb => ?_, Nat.le_trans hnx f6, H.gl.mono f2.mono⟩
  · show VT C' φ' (updO e d r t) _
    by_cases ht : d = some t
    · rw [hnew t ht, hv t ht]; exact f1
    · rw [hold t (fun h => ht h.symm), ha t (fun h => ht h.symm)]; exact (H.vt t).mono f2.mono hφ
  · show ownP C' w' _ (updO e d r t) _
    by_cases ht : d = some t
    · rw [hnew t ht, hv t ht]; exact f7
    · rw [hold t (fun h => ht h.symm), ha t (fun h => ht h.symm)]; exact (H.own t).ext f2 (hblk t)
  · show (blks (updO e d r t) _).Nodup
    by_cases ht : d = some t
    · rw [hnew t ht, hv t ht]; exact f9
    · rw [hold t (fun h => ht h.symm), ha t (fun h => ht h.symm)]; exact H.nodup t
  · have hout : ∀ s, some s ≠ d → ∀ b ∈ blks (e s) (tv a s), b ∉ blks r v := by
      intro s hs b hb hb'
      rcases (f8 b hb').1 with h1 | h1
      · exact hB s b hb h1
      · have := ((H.own s).lt b hb).2; omega
    have hb : b ∈ blks (updO e d r t) (tv a' t) := hb
    show b ∉ blks (updO e d r t') (tv a' t')
    by_cases ht : d = some t
    · have ht' : some t' ≠ d := fun h => hne (by rw [ht] at h; exact (Option.some.inj h).symm)
      rw [hnew t ht, hv t ht] at hb
      rw [hold t' ht', ha t' ht']
      exact fun hb' => hout t' ht' b hb' hb
    · have ht1 : some t ≠ d := fun h => ht h.symm
      rw [hold t ht1, ha t ht1] at hb
      by_cases ht' : d = some t'
      · rw [hnew t' ht', hv t' ht']; exact hout t ht1 b hb
      · have ht2 : some t' ≠ d := fun h => ht' h.symm
        rw [hold t' ht2, ha t' ht2]; exact H.disj t t' hne b hb
  · have hb : b ∈ blks (updO e d r t) (tv a' t) := hb
    by_cases ht : d = some t
    · rw [hnew t ht, hv t ht] at hb; exact (f8 b hb).2
    · rw [hold t (fun h => ht h.symm), ha t (fun h => ht h.symm)] at hb; exact hap' t b hb
  · rw [f4 id (Nat.lt_of_lt_of_le hid hnx)]; exact H.agr id hid
  · rcases Nat.lt_or_ge id h.nx with h1 | h1
    · rw [f4 id h1] at hb; exact H.new id b hid hb
    · exact Nat.le_trans H.ext.size (f5 id b h1 hb)

theorem upon_res {o : Oper} {K : Act → World → Prop} {Q : Exit → Act → World → Prop} {R : Result Next} {post : Value → World → Prop} (h : Res P R post) (hk : ∀ v w', post v w' → K (a.put o.dst v) w') : o.upon P a K Q R := by
  unfold Res at h
  split at h
  · exact hk _ _ h
  · exact hk _ _ h
  · exact Calls.mono h fun e w' ⟨v, he, hp⟩ => by subst he; exact hk _ _ hp
  · exact h.elim

theorem put_size {d : Option Nat} {v : Value} : (a.put d v).tmps.size = a.tmps.size := by cases d <;> simp [Act.put]
theorem put_defers {d : Option Nat} {v : Value} : (a.put d v).defers = a.defers := by cases d <;> rfl

/-- One operation, its guard aside. -/
theorem go_sim (hEQ : ∀ t ∈ EQ, EqLaw P t) (hc : CallingH P call) {ops : Array Oper} {o : Oper} {ao : AOper} (hchk : chkOper P EQ n ops o ao = true) {s' : Env × Hp}
    (H : St n C0 φ0 h0 w0 C φ (e, h) a w) (hs : stepGo call ao (e, h) = some s') {K : Act → World → Prop} {Q : Exit → Act → World → Prop} (hK : ∀ C' φ' a' w', St n C0 φ0 h0 w0 C' φ' s' a' w' → K a' w') : o.wp P a w K Q := by
  unfold chkOper at hchk
  simp only [Bool.and_eq_true, Bool.or_eq_true] at hchk
  obtain ⟨hlt, hchk⟩ := hchk
  unfold stepGo at hs
  simp only at hs
  split at hs <;> simp at hs
  rename_i r h1 hr
  subst hs
  rcases hchk with hini | hk
  · -- the first store
    unfold chkIni at hini
    split at hini <;> try (simp at hini; done)
    rename_i m t p x p' y hk ho hx hg
    simp only [Bool.and_eq_true, beq_iff_eq] at hini
    obtain ⟨⟨⟨⟨⟨hd, rfl⟩, had⟩, hy⟩, hsz⟩, hag⟩ := hini
    rw [hk, hx] at hr
    obtain ⟨g1, g2, g3, g4, g5, g6, g7⟩ := rds_sim [.tmp p, x] [.tk p, y] e H (by unfold chkOpds chkOpds chkOpds; rw [hy]; simp [chkOpd])
    rw [semH_pure rfl] at hr
    split at hr
    · rename_i hp
      split at hr <;> simp at hr
      rename_i r' hr'
      obtain ⟨rfl, rfl⟩ := hr
      have hargs : Args w0.heap.size C w (rds e [.tk p, y]).1 ([.tmp p, x].map a.eval) := ⟨H.ext.wd, H.ext.size, g1.toVRs hp, g2, g3, H.gl⟩
      simp only [sem] at hr'
      obtain ⟨u, v, hv, w', hrun, hf⟩ := sim_ini (P := P) hsz hargs hr'
      simp only [List.map_cons, List.map_nil, List.cons.injEq, and_true] at hv
      obtain ⟨rfl, rfl⟩ := hv
      have hfh := hf.toH H.hr (fun b hb id hid => by obtain ⟨t, ht⟩ := g5 b hb; exact H.apart t b ht id hid)
      unfold Oper.wp
      simp only [execOp, ho, Sem.run_bind, hrun, Result.andThen_ok, Sem.run_pure, Oper.upon, hd, hx]
      obtain ⟨C', φ', hst⟩ := g4.next (d := some p) (a' := a.put none undef) (by rw [← had]; exact hlt) g7 (fun b hb => by obtain ⟨t, ht⟩ := g5 b hb; exact ((H.own t).lt b ht).1) hfh (by rw [put_size]; exact H.size) (by rw [put_defers]; exact H.defers) (fun t _ => rfl) (fun t ht => by cases ht; rfl)
      refine hK C' φ' _ _ ?_
      rw [had, hx]
      exact hst
    · split at hr <;> simp at hr
      rename_i r' hr'
      obtain ⟨rfl, rfl⟩ := hr
      have hargs : ArgsH w0.heap.size C φ w h (rds e [.tk p, y]).1 ([.tmp p, x].map a.eval) := ⟨H.ext.wd, H.hr, H.ext.size, g1, g2, g3, fun b hb id hid => by obtain ⟨t, ht⟩ := g5 b hb; exact H.apart t b ht id hid, H.gl⟩
      simp only [semT] at hr'
      obtain ⟨u, v, hv, w', hrun, hfh⟩ := sim_iniT (P := P) hsz hargs hr'
      simp only [List.map_cons, List.map_nil, List.cons.injEq, and_true] at hv
      obtain ⟨rfl, rfl⟩ := hv
      unfold Oper.wp
      simp only [execOp, ho, Sem.run_bind, hrun, Result.andThen_ok, Sem.run_pure, Oper.upon, hd, hx]
      obtain ⟨C', φ', hst⟩ := g4.next (d := some p) (a' := a.put none undef) (by rw [← had]; exact hlt) g7 (fun b hb => by obtain ⟨t, ht⟩ := g5 b hb; exact ((H.own t).lt b ht).1) hfh (by rw [put_size]; exact H.size) (by rw [put_defers]; exact H.defers) (fun t _ => rfl) (fun t ht => by cases ht; rfl)
      refine hK C' φ' _ _ ?_
      rw [had, hx]
      exact hst
  · split at hk <;> try (simp at hk; done)
    rename_i xs hxs
    simp only [Bool.and_eq_true, beq_iff_eq] at hk
    obtain ⟨⟨hops, hd⟩, _⟩ := hk
    obtain ⟨g1, g2, g3, g4, g5, g6, g7⟩ := rds_sim xs ao.xs e H hops
    have hargs : ArgsH w0.heap.size C φ w h (rds e ao.xs).1 (xs.map a.eval) := ⟨H.ext.wd, H.hr, H.ext.size, g1, g2, g3, fun b hb id hid => by obtain ⟨t, ht⟩ := g5 b hb; exact H.apart t b ht id hid, H.gl⟩
    have hres := simN (P := P) hEQ hc hxs (ρ := a.eval) (fun _ => rfl) (fun _ => rfl) (fun _ => rfl) hargs hr
    refine upon_res hres fun v w' hf => ?_
    obtain ⟨C', φ', hst⟩ := g4.next (d := ao.dst) (a' := a.put o.dst v) hlt g7 (fun b hb => by obtain ⟨t, ht⟩ := g5 b hb; exact ((H.own t).lt b ht).1) hf (by rw [put_size]; exact H.size) (by rw [put_defers]; exact H.defers)
      (fun t ht => by rw [hd]; cases hdd : ao.dst with
        | none => rfl
        | some d => exact tv_put_other (fun he => ht (by rw [hdd, he])))
      (fun t ht => by rw [hd, ht]; exact tv_put_same (by rw [ht] at hlt; rw [H.size]; simpa [ltO] using hlt))
    exact hK C' φ' _ _ hst

end
end Go.Vm
