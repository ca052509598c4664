import PyProof.Rows.All
import Wide.All
import OpenK.AllK
import Wide.FinOn
import Open.SpecLaws
import KE.OsGo
import HandS.ForSpec
import HandS.Wide
import PySem.Challenge.RW_leadstrips_s06_root
set_option Elab.async false
set_option maxRecDepth 100000
set_option maxHeartbeats 2000000
set_option linter.all false
namespace Lead
/-- the least number whose square is at least n -/
def IsRoot (n r : Int) : Prop := 0 ≤ r ∧ n ≤ r * r ∧ ∀ k, 0 ≤ k → k < r → k * k < n
theorem rootFrom_is : ∀ (k r n : Nat), r * r ≤ n → n < (r + 2 ^ k) * (r + 2 ^ k) → GlaCut.rootFrom k r n * GlaCut.rootFrom k r n ≤ n ∧ n < (GlaCut.rootFrom k r n + 1) * (GlaCut.rootFrom k r n + 1)
  | 0, r, n, h1, h2 => ⟨h1, h2⟩
  | k + 1, r, n, h1, h2 => by
    unfold GlaCut.rootFrom
    by_cases c : (r + 2 ^ k) * (r + 2 ^ k) ≤ n
    · rw [if_pos c]
      refine rootFrom_is k (r + 2 ^ k) n c ?_
      have e : r + 2 ^ (k + 1) = r + 2 ^ k + 2 ^ k := by rw [Nat.pow_succ]; omega
      rw [← e]
      exact h2
    · rw [if_neg c]
      exact rootFrom_is k r n h1 (by omega)
theorem isRoot_up {n s : Nat} (h1 : s * s ≤ n) (h2 : n < (s + 1) * (s + 1)) : IsRoot (n : Int) ((if s * s = n then s else s + 1 : Nat) : Int) := by
  by_cases c : s * s = n
  · rw [if_pos c]
    refine ⟨by omega, by rw [← c]; simp, fun k k0 k1 => ?_⟩
    have : k * k < (s : Int) * s := Int.mul_lt_mul' (by omega) k1 k0 (by omega)
    rw [← c]
    simpa using this
  · rw [if_neg c]
    refine ⟨by omega, ?_, fun k k0 k1 => ?_⟩
    · have : ((n : Nat) : Int) ≤ (((s + 1) * (s + 1) : Nat) : Int) := by omega
      simpa using this
    · have : k * k ≤ (s : Int) * s := Int.mul_le_mul (by omega) (by omega) k0 (by omega)
      have e : ((s * s : Nat) : Int) = (s : Int) * s := by simp
      omega
theorem isRoot_inj {n a b : Int} (ha : IsRoot n a) (hb : IsRoot n b) : a = b := by
  obtain ⟨a0, a1, a2⟩ := ha
  obtain ⟨b0, b1, b2⟩ := hb
  rcases Int.lt_trichotomy a b with h | h | h
  · have := b2 a a0 h
    omega
  · exact h
  · have := a2 b b0 h
    omega
theorem isRoot_over {n : Nat} (h : n < 2 ^ 64) : IsRoot (n : Int) (LeadSpec.rootOver n : Int) := by
  have z := rootFrom_is 33 0 n (by omega) (by omega)
  exact isRoot_up z.1 z.2
theorem isRoot_rootUp {n : Nat} (h : n < 2 ^ 48) : IsRoot (n : Int) (GlaCut.rootUp n : Int) := by
  have z := rootFrom_is 24 0 n (by omega) (by omega)
  exact isRoot_up z.1 z.2
theorem spec_root (number : Int) (h0 : 0 ≤ number) : PyYqglca.root number = if number < 2 ^ 64 then [0, (LeadSpec.rootOver number.toNat : Int)] else [-1] := by
  have e : Neutral.nat number = some number.toNat := by unfold Neutral.nat; rw [if_neg (by omega)]
  have c : Neutral.callOf [[6, number]] = some (.root number.toNat) := by
    show (do some (LeadSpec.Call.root (← Neutral.nat number))) = _
    rw [e]
    rfl
  show (match Neutral.callOf [[6, number]] with
    | some x => Neutral.told (LeadSpec.answer x)
    | none => []) = _
  rw [c]
  show Neutral.told (LeadSpec.answer (.root number.toNat)) = _
  unfold LeadSpec.answer LeadSpec.asked
  by_cases h : number < 2 ^ 64
  · rw [if_pos h]
    have h2 : number.toNat < 2 ^ 64 := by omega
    simp [h2, Neutral.told, Neutral.ints]
  · rw [if_neg h]
    have h2 : ¬ number.toNat < 2 ^ 64 := by omega
    simp [h2, Neutral.told, LeadSpec.BAD]
open PySem PySem.Spec PyProof.Rows L2
open PySem.W (Codec)
def top (i : Nat) : Stmt := PySem.Challenge.pw_leadstrips_s06_root.main.body.getD i (.Pass ⟨0, 0, 0, 0⟩)
abbrev sRootOf : Stmt := top 1
abbrev sRoot : Stmt := top 6
def spRootOf : Sp := fun vs H Q _ => ∃ n : Int, vs = [.int n] ∧ 0 ≤ n ∧ n < 2 ^ 64 ∧ ∀ r, IsRoot n r → Q (.int r) H
theorem scRootOf : FnScope ["number", "low", "high", "middle"] ["number"] (defScope sRootOf) := ⟨rfl, rfl, rfl, by decide +kernel, rfl, by decide +kernel, by decide +kernel⟩
section
variable {P : Program} {w : World} {K : PySem.W.Frag} {mg : Str → Option Value} {base : Heap}
theorem ok_rootOf {f : Addr} {fd : FuncData} (F : Fun K "root_of" "root_of" sRootOf f fd) : FnOk P w K mg base CX0 1 f fd ["number"] spRootOf := by
  refine F.ok scRootOf (fun vs H Q E h => ?_) (fun cdv A outer s H vs Q E hr h => ?_)
  · obtain ⟨n, rfl, _⟩ := h
    rfl
  · refine ⟨_, pss_cons (ps_set (i := 1) scRootOf.nd rfl (.inl rfl) pe_int)
      (pss_cons (ps_set (i := 2) scRootOf.nd rfl (.inl rfl) pe_int)
      (pss_cons (ps_while PassesOwn.never (pt_cmpR op_lt (pe_op op_mulW (pv 2) (pv 2)) (pv 0) (nomark _))
        (pss_one (ps_set (i := 2) scRootOf.nd rfl (.inl rfl) (pe_op op_mulW pe_int (pv 2)))))
      (pss_cons (ps_while PassesOwn.never (pt_cmpR op_lt (pv 1) (pv 2) (nomark _))
        (pss_cons (ps_set (i := 3) scRootOf.nd rfl (.inl rfl) (pe_op op_fdiv (pe_op op_add (pv 1) (pv 2)) pe_int))
        (pss_one (ps_if (pt_cmpR op_ge (pe_op op_mulW (pv 3) (pv 3)) (pv 0) (nomark _))
          (pss_one (ps_set (i := 2) scRootOf.nd rfl (.inl rfl) (pv 3)))
          (pss_one (ps_set (i := 1) scRootOf.nd rfl (.inl rfl) (pe_op op_add (pv 3) pe_int)))))))
      (pss_one (ps_ret (pv 1)))))), ?_⟩
    obtain ⟨n, rfl, h0, h64, k⟩ := h
    simp only [tSeq, tAsg, tC, gName, L2.start, List.map, List.set, List.length, List.replicate, List.append, HAppend.hAppend, Append.append]
    refine while_by (fun σ H' => H' = H ∧ ∃ h : Int, σ = [some (.int n), some (.int 0), some (.int h), none] ∧ 1 ≤ h ∧ h ≤ 2 ^ 33) (fun σ _ => match σ with
      | [_, _, some (.int h), _] => (2 ^ 33 - h).toNat
      | _ => 0) ⟨rfl, 1, rfl, by decide, by decide⟩ ?_ (fun σ H Q Q' hQ => by
        simp only [tTest, tOp, rI, rI0, tVar]
        rintro ⟨v, a, v2, b, i, j, c, d, e, v3, f, i2, j2, g, h, k, l, m⟩
        exact ⟨v, a, v2, b, i, j, c, d, e, v3, f, i2, j2, g, h, k, l, hQ _ _ m⟩)
    rintro σ H' ⟨rfl, h, rfl, h1, h2⟩
    have w1 : CMulW h h := wide_mul (a := 40) (b := 40) (by omega) (by omega) (by decide) (by decide) (by decide)
    have w2 : CMulW 2 h := wide_mul (a := 40) (b := 40) (by omega) (by omega) (by decide) (by decide) (by decide)
    simp [tTest, tOp, rI, rI0, tVar, tAsg, tC, gName, w1, w2]
    by_cases c : h * h < n
    · rw [if_pos c]
      have h3 : h < 2 ^ 32 := by
        false_or_by_contra
        have : (2 ^ 32 : Int) * 2 ^ 32 ≤ h * h := Int.mul_le_mul (by omega) (by omega) (by decide) (by omega)
        omega
      omega
    · rw [if_neg c]
      simp only [tSeq]
      refine while_by (fun σ H2 => H2 = H' ∧ ∃ (lo hi : Int) (mi : Option V), σ = [some (.int n), some (.int lo), some (.int hi), mi] ∧ 0 ≤ lo ∧ lo ≤ hi ∧ hi ≤ 2 ^ 33 ∧ n ≤ hi * hi ∧ ∀ k, 0 ≤ k → k < lo → k * k < n) (fun σ _ => match σ with
        | [_, some (.int lo), some (.int hi), _] => (hi - lo).toNat
        | _ => 0) ⟨rfl, 0, h, none, rfl, by omega, by omega, h2, by omega, fun k a b => by omega⟩ ?_ (fun σ H Q Q' hQ => by
          simp only [tTest, tOp, rI, rI0, tVar]
          rintro ⟨v, a, v2, b, i, j, c, d, e, f, m⟩
          exact ⟨v, a, v2, b, i, j, c, d, e, f, hQ _ _ m⟩)
      rintro σ H2 ⟨rfl, lo, hi, mi, rfl, l0, l1, l2, l3, l4⟩
      have w3 : CMulW ((lo + hi) / 2) ((lo + hi) / 2) := wide_mul (a := 40) (b := 40) (by omega) (by omega) (by decide) (by decide) (by decide)
      have w4 : CDiv (lo + hi) 2 := ⟨by decide, by decide⟩
      simp [tSeq, tTest, tOp, rI, rI0, tVar, tAsg, tC, gName, tIfS, tRet, w3, w4]
      by_cases c2 : lo < hi
      · rw [if_pos c2]
        by_cases c3 : n ≤ (lo + hi) / 2 * ((lo + hi) / 2)
        · rw [if_pos c3]
          refine ⟨⟨_, _, ⟨rfl, rfl⟩, by omega, by omega, by omega, c3, l4⟩, by omega⟩
        · rw [if_neg c3]
          refine ⟨⟨_, _, ⟨rfl, rfl⟩, by omega, by omega, by omega, l3, fun q q0 q1 => ?_⟩, by omega⟩
          have : q * q ≤ (lo + hi) / 2 * ((lo + hi) / 2) := Int.mul_le_mul (by omega) (by omega) q0 (by omega)
          omega
      · rw [if_neg c2]
        have e : lo = hi := by omega
        subst e
        exact k _ ⟨l0, l3, l4⟩

structure Txt (mg : Str → Option Value) (K : PySem.W.Frag) (fR : Addr) : Prop where
  gD : ∃ t, mg "DONE" = some (.int 0 t)
  gN : ∃ t, mg "NO_SHOP" = some (.int (-1) t)
  gB : ∃ t, mg "ROOT_BOUND" = some (.int 18446744073709551616 t)
  gR : mg "root_of" = some (.ref fR)
  kR : PySem.W.keepIn K (.ref fR) = true
def spRoot : Sp := fun vs H Q _ => ∃ n : Int, vs = [.int n] ∧ 0 ≤ n ∧ ∀ (H' : Hp) (p : Addr), H' p = some (.lst ((PyYqglca.root n).map V.int)) → Q (.ref p) H'
theorem scRoot : FnScope ["number"] ["number"] (defScope sRoot) := ⟨rfl, rfl, rfl, by decide +kernel, rfl, by decide +kernel, by decide +kernel⟩
theorem ok_root {f fR : Addr} {fd fdR : FuncData} (F : Fun K "root" "root" sRoot f fd) (T : Txt mg K fR) (FR : Fun K "root_of" "root_of" sRootOf fR fdR) (bR : Binds K fdR ["number"] []) : FnOk P w K mg base CX0 2 f fd ["number"] spRoot := by
  have GR : FnOk P w K mg base CX0 1 fR fdR ["number"] spRootOf := ok_rootOf FR
  obtain ⟨tD, gD⟩ := T.gD
  obtain ⟨tN, gN⟩ := T.gN
  obtain ⟨tB, gB⟩ := T.gB
  refine F.ok scRoot (fun vs H Q E h => ?_) (fun cdv A outer s H vs Q E hr h => ?_)
  · obtain ⟨n, rfl, _⟩ := h
    rfl
  · refine ⟨_, pss_cons (ps_if (pt_cmpR op_ge (pv 0) (pe_glob (v := .int 18446744073709551616) rfl gB ⟨_, rfl⟩) (nomark _)) (pss_one (ps_ret (pe_lst (pa_cons (pe_glob (v := .int (-1)) rfl gN ⟨_, rfl⟩) pa_nil)))) pss_nil)
      (pss_one (ps_ret (pe_lst (pa_cons (pe_glob (v := .int 0) rfl gD ⟨_, rfl⟩) (pa_cons (pe_call GR hr rfl T.gR T.kR bR .nil pass0 (pa_cons (pv 0) pa_nil)) pa_nil))))), ?_⟩
    obtain ⟨n, rfl, h0, k⟩ := h
    have z1 : 1 ≤ sizeLine := by decide
    have z2 : 2 ≤ sizeLine := by decide
    simp [tSeq, tTest, tOp, rI, rI0, tVar, tAsg, tC, gName, tIfS, tRet, tLst, tCons, tNil, tCall, tNext, L2.start, spRootOf, z1, z2]
    rw [spec_root n h0] at k
    by_cases c : n < 2 ^ 64
    · rw [if_pos c] at k
      rw [if_neg (by omega)]
      refine ⟨h0, by omega, fun r hr p hp => ?_⟩
      have e : r = (LeadSpec.rootOver n.toNat : Int) := isRoot_inj hr (by
        have := isRoot_over (n := n.toNat) (by omega)
        rwa [Int.toNat_of_nonneg h0] at this)
      rw [e]
      exact k _ p upd_same
    · rw [if_neg c] at k
      rw [if_pos (by omega)]
      exact fun p hp => k _ p upd_same
end
theorem all_mk {P : Program} {w : World} {K : PySem.W.Frag} {h : Heap} {mg : Str → Option Value} {fa f1 f2 : Addr} (X : K.In h) (G : h.Ns mainGlobals mg) (hfa : mg "root" = some (.ref fa))
    {od1 an1 od2 an2 : Option Addr} {sl1 sl2 : Array (Option Value)} {oc1 kV1 dc1 pm1 cd1 ct1 oc2 kV2 dc2 pm2 cd2 ct2 : Value} {tD tN tB : Nat}
    (aD : PySem.W.nsIn K mainGlobals "DONE" = some (some (.int 0 tD))) (aN : PySem.W.nsIn K mainGlobals "NO_SHOP" = some (some (.int (-1) tN))) (aB : PySem.W.nsIn K mainGlobals "ROOT_BOUND" = some (some (.int 18446744073709551616 tB)))
    (a1 : PySem.W.nsIn K mainGlobals "root_of" = some (some (.ref f1))) (l1 : K.lookup f1 = some ⟨oc1, od1, .func (PySem.W.fnOf "root_of" "root_of" (defArgs sRootOf) (defBody sRootOf) (defScope sRootOf) .none kV1 dc1 pm1 an1 cd1 ct1), sl1⟩) (c1 : PySem.W.codeIn K cd1 "root_of" = true) (k1 : PySem.W.keepIn K (.ref f1) = true)
    (a2 : PySem.W.nsIn K mainGlobals "root" = some (some (.ref f2))) (l2 : K.lookup f2 = some ⟨oc2, od2, .func (PySem.W.fnOf "root" "root" (defArgs sRoot) (defBody sRoot) (defScope sRoot) .none kV2 dc2 pm2 an2 cd2 ct2), sl2⟩) (c2 : PySem.W.codeIn K cd2 "root" = true) (k2 : PySem.W.keepIn K (.ref f2) = true) :
    ∃ fd : FuncData, (∀ (s : Shared) (us : List Value), us.length = (["number"] : List Str).length → BindsTo s fd ⟨us, []⟩ ((["number"] : List Str).zip us)) ∧ ∀ base : Heap, K.In base → base.Ns mainGlobals mg → FnOk P w K mg base CX0 2 fa fd ["number"] spRoot := by
  have e := hfa.symm.trans (PySem.W.mg_of X G a2)
  cases e
  have T : Txt mg K f1 := ⟨⟨_, PySem.W.mg_of X G aD⟩, ⟨_, PySem.W.mg_of X G aN⟩, ⟨_, PySem.W.mg_of X G aB⟩, PySem.W.mg_of X G a1, k1⟩
  have F1 := fun_mk (st := sRootOf) l1 c1 k1
  have F2 := fun_mk (st := sRoot) l2 c2 k2
  have b1 := F1.binds (ps := ["number"]) fun _ _ _ _ _ _ us hl => match us, hl with | [_], _ => rfl
  exact ⟨PySem.W.fnOf "root" "root" (defArgs sRoot) (defBody sRoot) (defScope sRoot) .none kV2 dc2 pm2 an2 cd2 ct2, fun s us hu => match us, hu with | [_], _ => .of_eq rfl, fun base _ _ => ok_root F2 T F1 b1⟩
end Lead
open PySem PySem.W PyProof.Rows
set_option maxRecDepth 100000 in
set_option maxHeartbeats 8000000 in
theorem PySem.Challenge.cw_leadstrips_s06_root_holds : PySem.Challenge.rw_leadstrips_s06_root.Holds := by
  w_on; k_headS; (case hw => exact ⟨[.int 0], by decide +kernel, by decide +kernel⟩)
  k_fillS
  refine L2.walk_specK (r := PySem.Challenge.rw_leadstrips_s06_root) (k := 2) (CX := L2.CX0) (ps := ["number"]) (sp := fun _ => Lead.spRoot) (by decide +kernel) rfl rfl ⟨rfl, by decide, by decide⟩ (fun w h Y => PySem.W.kIn_of Y) ?F ?S (fun _ _ _ _ z => z)
  case F =>
    intro w mg fa h Y KX G hmg
    refine' Lead.all_mk KX G hmg ?aD ?aN ?aB ?a1 ?l1 ?c1 ?k1 ?a2 ?l2 ?c2 ?k2
    (case aD => k_is); (case aN => k_is); (case aB => k_is)
    (case a1 => k_is); (case l1 => k_is); (case c1 => k_is); (case k1 => k_is)
    (case a2 => k_is); (case l2 => k_is); (case c2 => k_is); (case k2 => k_is)
  case S =>
    intro K H xs a hO hwi hask hx
    cases hx with
    | cons h1 h2 =>
      cases h2
      cases h1
      have q : (Codec.inInt 0 36893488147419103231 a.1 && true) = true := hwi
      rw [Bool.and_eq_true] at q
      exact ⟨a.1, rfl, (Codec.inInt_iff.mp q.1).1, fun H' p hp => .lst (L2.SqL.of hp) (L2.dw_ints _)⟩
#print axioms PySem.Challenge.cw_leadstrips_s06_root_holds
