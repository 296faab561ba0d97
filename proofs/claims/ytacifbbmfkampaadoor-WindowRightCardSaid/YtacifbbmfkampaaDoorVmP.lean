/- Functions of the library by their laws: slices.Clone, strings.Join. -/
import Derived.Test.YtacifbbmfkampaaDoorVmQ
import Derived.Laws.Cover3
import Derived.Lib.Join
namespace Go.Vm
open Go.RowKit
set_option linter.unusedVariables false
set_option linter.unusedSimpArgs false
set_option linter.unusedSectionVars false
variable [Glob]

section
variable {P : Program} {EQ : List TypeId} {C : Pub} {w w' : World}

def callN : CallH := fun _ _ _ => none
theorem callN_ok : CallingH P callN := ⟨fun f xs h r _ hr => by simp [callN] at hr, fun f xs us h r h' C φ w _ hr => by simp [callN] at hr, fun f o xs _ _ n0 C φ w h vals r h' ρ _ _ _ _ hr => by simp [callN] at hr⟩

def pClone (k bytes : Nat) : (FuncId → List AV → Option AV) → List AV → Option AV
  | _, [.sl _ k' l] => if k' = k ∧ l.length * bytes ≤ 140737488355328 ∧ l.length ≤ 4611686018427387904 then some (.sl true k l) else none
  | _, _ => none
theorem tame_clone (k bytes : Nat) : TameP (pClone k bytes) := tameP_const fun _ _ xs => by unfold pClone; split <;> first | rfl | simp_all

def nilTest (P : Program) (o : Oper) : Bool := match o.op, o.guard, o.dst with
  | .binOp .eql t (.tmp 3) (.const (.slice none 0 0)) _, none, some 4 => (isSlice P t).isSome
  | _, _, _ => false
def cloneBody (P : Program) (EQ : List TypeId) (n k bytes : Nat) : Code → Bool
  | .seq (.region _ r0 false) (.seq (.seq (.region _ r1 false) (.cond (.tmp 4) (.seq (.region _ r2 false) .ret) .skip)) (.seq (.region _ r3 false) .ret)) =>
    chkOps P EQ n r0 r0.toList [⟨some 2, .mv, [.c (.sl true k [])], none⟩] &&
    (match r1.toList with
      | [o1, o2] => chkOper P EQ n r1 o1 ⟨some 3, .mv, [.t 0], none⟩ && nilTest P o2
      | _ => false) &&
    chkOps P EQ n r2 r2.toList [⟨some 2, .mv, [.c (.sl true k [])], none⟩] &&
    chkOps P EQ n r3 r3.toList [⟨some 5, .lit0 k, [], none⟩, ⟨some 6, .mv, [.t 0], none⟩, ⟨some 7, .app k bytes, [.tk 5, .t 6], none⟩, ⟨some 2, .mv, [.tk 7], none⟩]
  | _ => false
def cloneB (P : Program) (EQ : List TypeId) (fn : Func) (k bytes : Nat) : Bool :=
  (match fn.body with | some c => cloneBody P EQ fn.ntmps k bytes c | none => false) && resB P fn.results.toList [.t 2] && decide (8 ≤ fn.ntmps)

theorem nil_step {n : Nat} {C0 C : Pub} {φ0 φ : Phi} {h0 h : Hp} {w0 w : World} {e : Env} {a : Act} {ops : Array Oper} {i : Nat} {o : Oper} (hi : ops[i]? = some o) (ho : nilTest P o = true) (hn : 4 < n)
    (H : St n C0 φ0 h0 w0 C φ (e, h) a w) {ad : Option Addr} {l c : Nat} (hv : tv a 3 = .slice ad l c) {K : Act → World → Prop} {Q : Exit → Act → World → Prop}
    (hK : ∀ C' φ' a' w', St n C0 φ0 h0 w0 C' φ' (upd e 4 (.bool ad.isNone), h) a' w' → K a' w') : wpOp P ops Q i K a w := by
  unfold nilTest at ho
  split at ho <;> try (simp at ho; done)
  rename_i t x hop hg hd
  cases hs : isSlice P t with
  | none => simp [hs] at ho
  | some el =>
    unfold wpOp
    simp only [hi]
    have hw : Region.wanted o (yielded ops a.tmps) = true := by simp [Region.wanted, hg]
    rw [if_pos hw]
    refine .inl ?_
    have he : a.eval (.tmp 3) = .slice ad l c := hv
    have hrun : (execOp a.eval o).run P w = .ok (.value (.bool ad.isNone)) w := by
      have h1 : (eqGuard .eql t (.tmp 3) (.const (.slice none 0 0)) (.slice ad l c) (.slice none 0 0)).run P w = .ok () w := by simp [eqGuard]
      have h2 := run_equal_slice_nil (P := P) w t el ad l c (isSlice_spec hs)
      simp only [execOp, hop, he, Sem.run_bind, show a.eval (.const (.slice none 0 0)) = .slice none 0 0 from rfl, h1, Result.andThen_ok]
      simp only [binOp, Sem.run_bind, h2, Result.andThen_ok, Sem.run_pure]
    unfold Oper.wp
    rw [hrun, Oper.upon_value]
    have hf := (Fin.shared (n0 := w0.heap.size) (Bs := []) H.ext.wd (VR.bool ad.isNone) rfl).toH H.hr (by simp)
    obtain ⟨C', φ', hst⟩ := H.next (d := some 4) (r := .bool ad.isNone) (v := .bool ad.isNone) (w' := w) (a' := a.put o.dst (.bool ad.isNone)) (Bs := []) (by simp [ltO, hn]) (by simp) (by simp) hf (by rw [put_size]; exact H.size) (by rw [put_defers]; exact H.defers)
      (fun s hs => by rw [hd]; exact tv_put_other (fun he => hs (by rw [he])))
      (fun s hs => by rw [hd, hs]; exact tv_put_same (by rw [H.size]; cases hs; exact hn))
    exact hK C' φ' _ _ hst

theorem clone_law {f : FuncId} {fn : Func} {k bytes : Nat} (hm : P.follows .mixedOrders = true) (hEQ : ∀ t ∈ EQ, EqLaw P t) (hf : P.funcs[f]? = some fn) (hc : cloneB P EQ fn k bytes = true) : PrimLaw P f (pClone k bytes) := by
  intro call hcall xs us r C w hr hw hg hv hs
  unfold pClone at hr
  split at hr <;> try (simp at hr; done)
  rename_i o k' l
  split at hr <;> simp at hr
  rename_i hb
  obtain ⟨rfl, hb1, hb2⟩ := hb
  subst hr
  have ho : o = false := by have := hs _ (by simp : AV.sl o k' l ∈ [AV.sl o k' l]); simpa [AV.share, AV.share1] using this.symm
  subst ho
  unfold cloneB at hc
  simp only [Bool.and_eq_true, decide_eq_true_eq] at hc
  obtain ⟨⟨hbody, hres⟩, hn8⟩ := hc
  split at hbody <;> try (simp at hbody; done)
  rename_i cd hcd
  unfold cloneBody at hbody
  split at hbody <;> try (simp at hbody; done)
  rename_i i0 r0 i1 r1 i2 r2 i3 r3
  simp only [Bool.and_eq_true] at hbody
  obtain ⟨⟨⟨k0, k1⟩, k2⟩, k3⟩ := hbody
  split at k1 <;> try (simp at k1; done)
  rename_i o1 o2 hr1
  simp only [Bool.and_eq_true] at k1
  obtain ⟨k1a, k1b⟩ := k1
  obtain ⟨v, vs', rfl, hv1, hv2⟩ := hv.cons_inv
  cases hv2.nil_inv
  obtain ⟨ad, len, cap, rfl, hnil⟩ : ∃ ad len cap, v = .slice ad len cap ∧ (ad = none → l = []) := by
    cases hv1 with
    | slnil => exact ⟨none, 0, 0, rfl, fun _ => rfl⟩
    | sl _ _ _ b off sp cap => exact ⟨_, _, _, rfl, by simp⟩
  have hst := St.start (n := fn.ntmps) hw hg (HR.e C w) (VTs.ofVRs (VRs.cons hv1 .nil)) hs (by simp; omega)
  refine Calls.mono (calls_of_wp (R := fun e w' => ∃ v, e = .returned v ∧ FinH w.heap.size C (fun _ => none) w Hp.e [] (.sl true k' l) v w' Hp.e) hf hcd ?_) fun e w' ⟨v, he, hfin⟩ => ⟨v, he, hfin.toFin rfl⟩
  have fin : ∀ (x : AExit) (e : Env) C' φ' a' w', x = .normal ∨ x = .ret → e 2 = .sl true k' l → St fn.ntmps C (fun _ => none) Hp.e w C' φ' (e, Hp.e) a' w' → bodyPost P fn (fun e w' => ∃ v, e = .returned v ∧ FinH w.heap.size C (fun _ => none) w Hp.e [] (.sl true k' l) v w' Hp.e) x.ex a' w' := by
    intro x e C' φ' a' w' hx he h2
    have hle : leave Hp.e Hp.e (resOf e Hp.e [.t 2]) = some (.sl true k' l, Hp.e) := by
      simp only [resOf, res1, he, leave, AV.pu, if_true, Hp.cut_self]
    obtain ⟨v, hrun, hfin⟩ := h2.result (fun id hid => rfl) hres (nodupB_spec rfl) hle
    rcases hx with rfl | rfl
    · exact ⟨h2.defers, v, hrun, v, rfl, hfin⟩
    · exact ⟨h2.defers, v, hrun, v, rfl, hfin⟩
  have e00 : init [AV.sl false k' l] 0 = .sl false k' l := rfl
  refine wp_seq (wp_region ?_)
  have g0 := fun Q hQ => ops_sim (P := P) (Q := Q) (sf := (upd (init [AV.sl false k' l]) 2 (.sl true k' []), Hp.e)) hEQ callN_ok (ops := r0) hQ r0.toList _ 0 (init [AV.sl false k' l], Hp.e) C _ _ w (fun j o hj => by simpa using hj) k0 hst rfl
  rw [← List.range_eq_range'] at g0
  refine g0 _ fun C1 φ1 a1 w1 s1 => ?_
  show Code.wp _ _ _ _ _
  refine wp_seq (wp_seq (wp_region ?_))
  have hsz : r1.size = 2 := by have := congrArg List.length hr1; simpa using this
  rw [hsz, show List.range 2 = [0, 1] from rfl, wpOps_cons]
  have hi0 : r1[0]? = some o1 := by have := congrArg (fun l => l[0]?) hr1; simpa using this
  have hi1 : r1[1]? = some o2 := by have := congrArg (fun l => l[1]?) hr1; simpa using this
  refine op_sim (s' := (upd (upd (init [AV.sl false k' l]) 2 (.sl true k' [])) 3 (.sl false k' l), Hp.e)) hEQ callN_ok hi0 k1a s1 rfl fun C2 φ2 a2 w2 s2 => ?_
  rw [wpOps_cons]
  have hv3 : ∃ ad' l' c', tv a2 3 = .slice ad' l' c' ∧ (ad' = none → l = []) := by
    have hvt := (s2.vt 3).toVR rfl
    have e3 : (upd (upd (init [AV.sl false k' l]) 2 (.sl true k' [])) 3 (.sl false k' l)) 3 = .sl false k' l := rfl
    simp only [e3] at hvt
    generalize tv a2 3 = u at hvt ⊢
    cases hvt with
    | slnil => exact ⟨none, 0, 0, rfl, fun _ => rfl⟩
    | sl _ _ _ b off sp cap => exact ⟨_, _, _, rfl, by simp⟩
  obtain ⟨ad', l', c', hv3, hnil'⟩ := hv3
  refine nil_step hi1 k1b (by omega) s2 hv3 fun C3 φ3 a3 w3 s3 => ?_
  show Exit.then _ _ _ _ _
  have hcond : a3.eval (.tmp 4) = .bool ad'.isNone := by
    have hvt := (s3.vt 4).toVR rfl
    have e4 : (upd (upd (upd (init [AV.sl false k' l]) 2 (.sl true k' [])) 3 (.sl false k' l)) 4 (.bool ad'.isNone)) 4 = .bool ad'.isNone := rfl
    simp only [e4] at hvt
    show tv a3 4 = _
    generalize tv a3 4 = u at hvt ⊢
    cases hvt; rfl
  cases had : ad' with
  | none =>
    subst had
    have hl := hnil' rfl
    subst hl
    refine wp_cond_true hcond (wp_seq (wp_region ?_))
    have g2 := fun Q hQ => ops_sim (P := P) (Q := Q) (sf := (upd (upd (upd (upd (init [AV.sl false k' []]) 2 (.sl true k' [])) 3 (.sl false k' [])) 4 (.bool true)) 2 (.sl true k' []), Hp.e)) hEQ callN_ok (ops := r2) hQ r2.toList _ 0 _ C3 φ3 a3 w3 (fun j o hj => by simpa using hj) k2 s3 rfl
    rw [← List.range_eq_range'] at g2
    refine g2 _ fun C4 φ4 a4 w4 s4 => ?_
    show Code.wp _ _ _ _ _
    exact wp_ret (fin .ret _ C4 φ4 a4 w4 (.inr rfl) rfl s4)
  | some ad' =>
    rw [had] at hcond
    refine wp_cond_false hcond (wp_skip ?_)
    show Code.wp _ _ _ _ _
    refine wp_seq (wp_region ?_)
    have hst3 : steps callN [⟨some 5, .lit0 k', [], none⟩, ⟨some 6, .mv, [.t 0], none⟩, ⟨some 7, .app k' bytes, [.tk 5, .t 6], none⟩, ⟨some 2, .mv, [.tk 7], none⟩] (upd (upd (upd (init [AV.sl false k' l]) 2 (.sl true k' [])) 3 (.sl false k' l)) 4 (.bool (Option.isNone (some ad'))), Hp.e)
        = some (upd (upd (upd (upd (upd (upd (upd (upd (upd (init [AV.sl false k' l]) 2 (.sl true k' [])) 3 (.sl false k' l)) 4 (.bool (Option.isNone (some ad')))) 5 (.sl true k' [])) 6 (.sl false k' l)) 5 (.sl false k' [])) 7 (.sl true k' l)) 7 (.sl false k' l)) 2 (.sl true k' l), Hp.e) := by
      have hb1' : (0 + l.length) * bytes ≤ 140737488355328 := by simpa using hb1
      have hb2' : 0 + l.length ≤ 4611686018427387904 := by simpa using hb2
      have happ : sApp k' bytes [.sl true k' [], .sl false k' l] = some (.sl true k' l) := by
        simp [sApp, hb1, hb2]
      have eA : ∀ (e : Env) (h : Hp), step callN ⟨some 5, .lit0 k', [], none⟩ (e, h) = some (upd e 5 (.sl true k' []), h) := fun e h => rfl
      have eB : ∀ (e : Env) (h : Hp), (e 0) = .sl false k' l → step callN ⟨some 6, .mv, [.t 0], none⟩ (e, h) = some (upd e 6 (.sl false k' l), h) := fun e h he => by
        simp [step, stepGo, rds, rd, he, semH, sem, sMv, AV.share, AV.share1, AV.pu, updO]
      have eC : ∀ (e : Env) (h : Hp), (e 5) = .sl true k' [] → (e 6) = .sl false k' l → step callN ⟨some 7, .app k' bytes, [.tk 5, .t 6], none⟩ (e, h) = some (upd (upd e 5 (.sl false k' [])) 7 (.sl true k' l), h) := fun e h h5 h6 => by
        have h6' : upd e 5 (.sl false k' []) 6 = .sl false k' l := by simp [upd, h6]
        simp [step, stepGo, rds, rd, h5, h6', semH, sem, happ, AV.share, AV.share1, AV.pu, updO]
      have eD : ∀ (e : Env) (h : Hp), (e 7) = .sl true k' l → step callN ⟨some 2, .mv, [.tk 7], none⟩ (e, h) = some (upd (upd e 7 (.sl false k' l)) 2 (.sl true k' l), h) := fun e h h7 => by
        simp [step, stepGo, rds, rd, h7, semH, sem, sMv, AV.share, AV.share1, AV.pu, updO]
      simp only [steps]
      rw [eA]; simp only
      rw [eB _ _ rfl]; simp only
      rw [eC _ _ rfl rfl]; simp only
      rw [eD _ _ rfl]
    rw [had] at s3
    have g3 := fun Q hQ => ops_sim (P := P) (Q := Q) hEQ callN_ok (ops := r3) hQ r3.toList _ 0 _ C3 φ3 a3 w3 (fun j o hj => by simpa using hj) k3 s3 hst3
    rw [← List.range_eq_range'] at g3
    refine g3 _ fun C4 φ4 a4 w4 s4 => ?_
    show Code.wp _ _ _ _ _
    exact wp_ret (fin .ret _ C4 φ4 a4 w4 (.inr rfl) rfl s4)

-- ------------------------------------------------------------ contracts of the shelf's
theorem Fin.below {n0 : Nat} {Bs : List Nat} {r : AV} {v : Value} (hw : Wd C w) (hb : Below w.heap.size w w') (h : VR C r v) (hs : r.share = r) : Fin n0 C w Bs r v w' := by
  have hlt : ∀ b o v, C b o = some v → b < w.heap.size := by
    intro b o v hC
    rcases Nat.lt_or_ge b w.heap.size with h1 | h1
    · exact h1
    · have := hw.fresh h1 o; rw [hC] at this; cases this
  refine ⟨C, h, ⟨hb.os, hb.tape, hb.output, hb.size, fun b hlt' _ => ⟨hb.block b hlt', fun _ => rfl⟩, fun _ _ _ h => h, fun b o v hC => ?_⟩, ownP_of_share hs, ?_, ?_⟩
  · rw [hb.cell (p := ⟨b, o, none⟩) (hlt b o v hC)]; exact hw b o v hC
  · rw [blks_nil_of_share hs]; simp
  · rw [blks_nil_of_share hs]; simp

def strsOf : List AV → Option (List (List UInt8))
  | [] => some []
  | .str s :: xs => (match strsOf xs with | some l => some (s :: l) | none => none)
  | _ => none
def pJoin : (FuncId → List AV → Option AV) → List AV → Option AV
  | _, [.sl _ 1 l, .str sep] => (match strsOf l with
    | some ss => if ss.length ≤ 140737488355328 ∧ (Go.Lib.join ss sep).length ≤ 140737488355328 then some (.str (Go.Lib.join ss sep)) else none
    | none => none)
  | _, _ => none
theorem tame_join : TameP pJoin := tameP_const fun _ _ xs => by unfold pJoin; split <;> first | rfl | simp_all
theorem strsOf_spec : ∀ {l : List AV} {ss : List (List UInt8)}, strsOf l = some ss → l = ss.map AV.str
  | [], ss, h => by simp [strsOf] at h; subst h; rfl
  | x :: xs, ss, h => by
    unfold strsOf at h
    split at h <;> try (simp at h; done)
    · rename_i heq; cases heq
    · rename_i s xs' heq
      cases heq
      split at h <;> simp at h
      rename_i l hl
      subst h
      simp [strsOf_spec hl]
theorem join_law {f : FuncId} (h0 : ∀ (a : Option Addr) (c : Nat) (sep : ByteArray) (w : World), Calls P f #[.slice a 0 c, .string sep] w fun e w' => e = .returned (.string ⟨#[]⟩) ∧ w' = w)
    (h1 : ∀ (bk o c : Nat) (xs : List ByteArray) (sep : ByteArray) (w : World), (∀ (j : Nat) x, xs[j]? = some x → w.cell? ⟨bk, o + j, none⟩ = some (.string x)) → bk < w.heap.size → xs.length ≤ 140737488355328 → xs.length ≤ c → (Go.Lib.join (xs.map (·.data.toList)) sep.data.toList).length ≤ 140737488355328 →
      Calls P f #[.slice (some ⟨bk, o, none⟩) xs.length c, .string sep] w fun e w' => e = .returned (.string ⟨(Go.Lib.join (xs.map (·.data.toList)) sep.data.toList).toArray⟩) ∧ Below w.heap.size w w') : PrimLaw P f pJoin := by
  intro call hcall xs us r C w hr hw hg hv hs
  unfold pJoin at hr
  split at hr <;> try (simp at hr; done)
  rename_i o l sep
  split at hr <;> try (simp at hr; done)
  rename_i ss hss
  split at hr <;> simp at hr
  rename_i hb
  subst hr
  have hl := strsOf_spec hss
  obtain ⟨v1, vs', rfl, g1, g2⟩ := hv.cons_inv
  obtain ⟨v2, vs', rfl, g3, g4⟩ := g2.cons_inv
  cases g4.nil_inv
  cases g3
  subst hl
  cases ss with
  | nil =>
    have hv1 : ∃ a c, v1 = .slice a 0 c := by
      cases g1 with
      | slnil => exact ⟨none, 0, rfl⟩
      | sl _ _ _ b off sp cap => exact ⟨_, _, rfl⟩
    obtain ⟨a, c, rfl⟩ := hv1
    refine (h0 a c ⟨sep.toArray⟩ w).mono fun e w' ⟨he, hw'⟩ => ⟨_, he, ?_⟩
    subst hw'
    exact Fin.shared hw (VR.str (Go.Lib.join [] sep)) rfl
  | cons s ss =>
    cases g1 with
    | sl _ _ _ b off sp cap cv hcap hsp hk k1 k2 =>
      have hsp := hsp (by simp)
      subst hsp
      have hlt : ∀ b o v, C b o = some v → b < w.heap.size := by
        intro b o v hC
        rcases Nat.lt_or_ge b w.heap.size with h1 | h1
        · exact h1
        · have := hw.fresh h1 o; rw [hC] at this; cases this
      have hcell : ∀ (j : Nat) x, ((s :: ss).map fun s => (⟨s.toArray⟩ : ByteArray))[j]? = some x → C b (off + j) = some (.string x) := by
        intro j x hx
        rw [List.getElem?_map] at hx
        simp only [Option.map_eq_some_iff] at hx
        obtain ⟨t, ht, rfl⟩ := hx
        have e1 : ((s :: ss).map AV.str)[j]? = some (.str t) := by rw [List.getElem?_map, ht]; rfl
        have q1 := (k1 j (.str t) 0 (.str t) e1 rfl).2
        have q2 := k2 j (.str t) 0 (.str t) e1 rfl
        simp only [Nat.mul_one, Nat.add_zero] at q1
        rw [q1]
        generalize cv j 0 = u at q2 ⊢
        cases q2; rfl
      have hlen : ((s :: ss).map AV.str).length = ((s :: ss).map fun s => (⟨s.toArray⟩ : ByteArray)).length := by simp
      have hmap : (((s :: ss).map fun s => (⟨s.toArray⟩ : ByteArray)).map (·.data.toList)) = s :: ss := by rw [List.map_map]; simp [Function.comp_def]
      have := h1 b off cap ((s :: ss).map fun s => (⟨s.toArray⟩ : ByteArray)) ⟨sep.toArray⟩ w (fun j x hx => hw _ _ _ (hcell j x hx)) (hlt b (off + 0) _ (hcell 0 _ rfl)) (by simpa using hb.1) (by rw [← hlen]; exact hcap) (by rw [hmap]; exact hb.2)
      rw [← hlen, hmap] at this
      exact this.mono fun e w' ⟨he, hbel⟩ => ⟨_, he, Fin.below hw hbel (VR.str _) rfl⟩
end
end Go.Vm
