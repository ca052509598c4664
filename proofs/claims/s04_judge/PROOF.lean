import PyProof.Rows.All
import Wide.All
import OpenK.AllK
import Wide.FinOn
import PyProof.EqAt
import PyProof.EqKinds
import PyProof.TupleCall
import Open.SpecLaws
import KE.OsGo
import HandS.ForSpec
import HandS.Comp
import HandS.Iter
import HandS.Dict
import HandS.Deep
import HandS.Evl
import HandS.ExcInit
import HandS.ExcField
import HandS.SortRule
import HandS.SortInts
import HandS.Conv
import HandS.Wide
import HandS.Zip
import PySem.Challenge.RW_leadstrips_s04_judge
import HandS.Walk
import HandS.WordsDict
import KE.DatumOrd
set_option Elab.async false
set_option maxRecDepth 100000
set_option maxHeartbeats 2000000
set_option linter.all false
namespace Lead
/-! sums over lists -/
def sm {α : Type} : List α → (α → Int) → Int
  | [], _ => 0
  | a :: l, g => g a + sm l g
section
variable {α β : Type}
theorem sm_congr {l : List α} {g h : α → Int} (H : ∀ a ∈ l, g a = h a) : sm l g = sm l h := by
  induction l with
  | nil => rfl
  | cons a l ih =>
    simp only [sm]
    rw [H a (by simp), ih fun b hb => H b (by simp [hb])]
theorem sm_add {l : List α} {g h : α → Int} : sm l (fun a => g a + h a) = sm l g + sm l h := by
  induction l with
  | nil => rfl
  | cons a l ih =>
    simp only [sm]
    rw [ih]
    omega
theorem sm_sub {l : List α} {g h : α → Int} : sm l (fun a => g a - h a) = sm l g - sm l h := by
  induction l with
  | nil => rfl
  | cons a l ih =>
    simp only [sm]
    rw [ih]
    omega
theorem sm_neg {l : List α} {g : α → Int} : sm l (fun a => - g a) = - sm l g := by
  induction l with
  | nil => rfl
  | cons a l ih =>
    simp only [sm]
    rw [ih]
    omega
theorem sm_zero {l : List α} : sm l (fun _ => 0) = 0 := by
  induction l with
  | nil => rfl
  | cons a l ih =>
    simp only [sm]
    rw [ih]
    rfl
theorem sm_zero_of {l : List α} {g : α → Int} (H : ∀ a ∈ l, g a = 0) : sm l g = 0 := (sm_congr H).trans sm_zero
theorem sm_append {l k : List α} {g : α → Int} : sm (l ++ k) g = sm l g + sm k g := by
  induction l with
  | nil => simp [sm]
  | cons a l ih =>
    simp only [sm, List.cons_append]
    rw [ih]
    omega
theorem sm_perm {l k : List α} {g : α → Int} (p : l.Perm k) : sm l g = sm k g := by
  induction p with
  | nil => rfl
  | cons a p ih => simp only [sm]; rw [ih]
  | swap a b l => simp only [sm]; omega
  | trans p q ih1 ih2 => rw [ih1, ih2]
theorem sm_map {l : List β} {f : β → α} {g : α → Int} : sm (l.map f) g = sm l (fun b => g (f b)) := by
  induction l with
  | nil => rfl
  | cons a l ih =>
    simp only [sm, List.map_cons]
    rw [ih]
theorem sm_mul {l : List α} {g : α → Int} {c : Int} : sm l (fun a => c * g a) = c * sm l g := by
  induction l with
  | nil => simp [sm]
  | cons a l ih =>
    simp only [sm]
    rw [ih, Int.mul_add]
theorem sm_mul_right {l : List α} {g : α → Int} {c : Int} : sm l (fun a => g a * c) = sm l g * c := by
  induction l with
  | nil => simp [sm]
  | cons a l ih =>
    simp only [sm]
    rw [ih, Int.add_mul]
theorem sm_comm {l : List α} {k : List β} {g : α → β → Int} : sm l (fun a => sm k (fun b => g a b)) = sm k (fun b => sm l (fun a => g a b)) := by
  induction l with
  | nil => simp only [sm]; exact sm_zero.symm
  | cons a l ih =>
    simp only [sm]
    rw [ih, sm_add]
theorem sm_filter {l : List α} {p : α → Bool} {g : α → Int} : sm (l.filter p) g = sm l (fun a => if p a = true then g a else 0) := by
  induction l with
  | nil => rfl
  | cons a l ih =>
    by_cases c : p a = true
    · rw [List.filter_cons_of_pos c]
      simp only [sm]
      rw [ih, if_pos c]
    · rw [List.filter_cons_of_neg c]
      simp only [sm]
      rw [ih, if_neg c]
      omega
/-- one item alone -/
theorem sm_one [DecidableEq α] {l : List α} (nd : l.Nodup) {a : α} (ha : a ∈ l) {g : α → Int} : sm l (fun b => if b = a then g b else 0) = g a := by
  induction l with
  | nil => cases ha
  | cons b l ih =>
    simp only [sm]
    have nd2 := List.nodup_cons.mp nd
    by_cases c : b = a
    · subst c
      rw [if_pos rfl, sm_zero_of]
      · omega
      · intro d hd
        rw [if_neg]
        rintro rfl
        exact nd2.1 hd
    · have ha2 : a ∈ l := by
        rcases List.mem_cons.mp ha with h | h
        · exact absurd h.symm c
        · exact h
      rw [if_neg c, ih nd2.2 ha2]
      omega
theorem sm_none [DecidableEq α] {l : List α} {a : α} (ha : ¬ a ∈ l) {g : α → Int} : sm l (fun b => if b = a then g b else 0) = 0 := by
  apply sm_zero_of
  intro b hb
  rw [if_neg]
  rintro rfl
  exact ha hb
theorem sm_nonneg {l : List α} {g : α → Int} (H : ∀ a ∈ l, 0 ≤ g a) : 0 ≤ sm l g := by
  induction l with
  | nil => simp [sm]
  | cons a l ih =>
    simp only [sm]
    have := H a (by simp)
    have := ih fun b hb => H b (by simp [hb])
    omega
theorem sm_if {l : List α} {P : Prop} [Decidable P] {g : α → Int} : sm l (fun a => if P then g a else 0) = if P then sm l g else 0 := by
  by_cases c : P
  · simp only [if_pos c]
  · simp only [if_neg c]
    exact sm_zero
end
/-! sums of rationals -/
def smr {α : Type} : List α → (α → Rat) → Rat
  | [], _ => 0
  | a :: l, g => g a + smr l g
section
variable {α β : Type}
theorem smr_congr {l : List α} {g h : α → Rat} (H : ∀ a ∈ l, g a = h a) : smr l g = smr l h := by
  induction l with
  | nil => rfl
  | cons a l ih =>
    simp only [smr]
    rw [H a (by simp), ih fun b hb => H b (by simp [hb])]
theorem smr_add {l : List α} {g h : α → Rat} : smr l (fun a => g a + h a) = smr l g + smr l h := by
  induction l with
  | nil => simp only [smr]; grind
  | cons a l ih =>
    simp only [smr]
    rw [ih]
    grind
theorem smr_zero {l : List α} : smr l (fun _ => 0) = 0 := by
  induction l with
  | nil => rfl
  | cons a l ih =>
    simp only [smr]
    rw [ih]
    grind
theorem smr_mul {l : List α} {g : α → Rat} {c : Rat} : smr l (fun a => c * g a) = c * smr l g := by
  induction l with
  | nil => simp only [smr]; grind
  | cons a l ih =>
    simp only [smr]
    rw [ih]
    grind
theorem smr_perm {l k : List α} {g : α → Rat} (p : l.Perm k) : smr l g = smr k g := by
  induction p with
  | nil => rfl
  | cons a p ih => simp only [smr]; rw [ih]
  | swap a b l => simp only [smr]; grind
  | trans p q ih1 ih2 => rw [ih1, ih2]
theorem smr_comm {l : List α} {k : List β} {g : α → β → Rat} : smr l (fun a => smr k (fun b => g a b)) = smr k (fun b => smr l (fun a => g a b)) := by
  induction l with
  | nil => simp only [smr]; exact smr_zero.symm
  | cons a l ih =>
    simp only [smr]
    rw [ih, smr_add]
theorem smr_filter {l : List α} {p : α → Bool} {g : α → Rat} : smr (l.filter p) g = smr l (fun a => if p a = true then g a else 0) := by
  induction l with
  | nil => rfl
  | cons a l ih =>
    by_cases c : p a = true
    · rw [List.filter_cons_of_pos c]
      simp only [smr]
      rw [ih, if_pos c]
    · rw [List.filter_cons_of_neg c]
      simp only [smr]
      rw [ih, if_neg c]
      grind
theorem smr_nonneg {l : List α} {g : α → Rat} (H : ∀ a ∈ l, 0 ≤ g a) : 0 ≤ smr l g := by
  induction l with
  | nil => simp [smr]
  | cons a l ih =>
    simp only [smr]
    have := H a (by simp)
    have := ih fun b hb => H b (by simp [hb])
    grind
theorem smr_pos {l : List α} {g : α → Rat} (H : ∀ a ∈ l, 0 ≤ g a) {a : α} (ha : a ∈ l) (h : 0 < g a) : 0 < smr l g := by
  induction l with
  | nil => cases ha
  | cons b l ih =>
    simp only [smr]
    rcases List.mem_cons.mp ha with rfl | hb
    · have := smr_nonneg (l := l) (g := g) fun c hc => H c (by simp [hc])
      grind
    · have := H b (by simp)
      have := ih (fun c hc => H c (by simp [hc])) hb
      grind
theorem sm_cast {l : List α} {g : α → Int} : ((sm l g : Int) : Rat) = smr l (fun a => ((g a : Int) : Rat)) := by
  induction l with
  | nil => rfl
  | cons a l ih =>
    simp only [smr, sm]
    rw [← ih]
    simp
end
end Lead
namespace Lead
/-! a drawing: points with a rising height, lines from the lower to the higher end; no point on a line, no crossing -/
structure Geo where
  n : Nat
  x : Nat → Rat
  h : Nat → Rat
  L : List (Nat × Nat)
def Geo.tn (G : Geo) (p q r : Nat) : Rat := (G.x q - G.x p) * (G.h r - G.h q) - (G.h q - G.h p) * (G.x r - G.x q)
structure Geo.Ok (G : Geo) : Prop where
  mono : ∀ i j, i < j → j < G.n → G.h i < G.h j
  lt : ∀ e ∈ G.L, e.1 < e.2 ∧ e.2 < G.n
  nd : G.L.Nodup
  free : ∀ e ∈ G.L, ∀ v, e.1 < v → v < e.2 → G.tn e.1 e.2 v ≠ 0
  cros : ∀ e ∈ G.L, ∀ f ∈ G.L, ¬ (((0 < G.tn f.1 f.2 e.1 ∧ G.tn f.1 f.2 e.2 < 0) ∨ (G.tn f.1 f.2 e.1 < 0 ∧ 0 < G.tn f.1 f.2 e.2)) ∧
    ((0 < G.tn e.1 e.2 f.1 ∧ G.tn e.1 e.2 f.2 < 0) ∨ (G.tn e.1 e.2 f.1 < 0 ∧ 0 < G.tn e.1 e.2 f.2)))
namespace Geo
variable (G : Geo)
/-- slope between two points: how far to the right for each unit up -/
def sl (v y : Nat) : Rat := (G.x y - G.x v) / (G.h y - G.h v)
/-- where a line is at a height -/
def at_ (e : Nat × Nat) (H : Rat) : Rat := G.x e.1 + G.sl e.1 e.2 * (H - G.h e.1)
/-- the height of a level, between a point and the next -/
def lev (t : Nat) : Rat := (G.h t + G.h (t + 1)) / 2
theorem sl_symm (v y : Nat) : G.sl v y = G.sl y v := by
  unfold sl
  by_cases c : G.h y - G.h v = 0
  · have c2 : G.h v - G.h y = 0 := by grind
    rw [c, c2]
    simp [Rat.div_def]
  · grind
variable {G}
theorem at_low (e : Nat × Nat) : G.at_ e (G.h e.1) = G.x e.1 := by
  unfold at_
  grind
theorem at_high {e : Nat × Nat} (c : G.h e.1 < G.h e.2) : G.at_ e (G.h e.2) = G.x e.2 := by
  unfold at_ sl
  grind
/-- the turn, by where the line is at the point's height -/
theorem tn_at {e : Nat × Nat} (c : G.h e.1 < G.h e.2) (p : Nat) : G.tn e.1 e.2 p = (G.h e.2 - G.h e.1) * (G.at_ e (G.h p) - G.x p) := by
  unfold tn at_ sl
  grind
theorem tn_pos {e : Nat × Nat} (c : G.h e.1 < G.h e.2) {p : Nat} : 0 < G.tn e.1 e.2 p ↔ G.x p < G.at_ e (G.h p) := by
  rw [tn_at c]
  constructor
  · intro z
    false_or_by_contra
    have : 0 ≤ (G.h e.2 - G.h e.1) * (G.x p - G.at_ e (G.h p)) := Rat.mul_nonneg (by grind) (by grind)
    grind
  · intro z
    exact Rat.mul_pos (by grind) (by grind)
theorem tn_neg {e : Nat × Nat} (c : G.h e.1 < G.h e.2) {p : Nat} : G.tn e.1 e.2 p < 0 ↔ G.at_ e (G.h p) < G.x p := by
  rw [tn_at c]
  constructor
  · intro z
    false_or_by_contra
    have : 0 ≤ (G.h e.2 - G.h e.1) * (G.at_ e (G.h p) - G.x p) := Rat.mul_nonneg (by grind) (by grind)
    grind
  · intro z
    have : 0 < (G.h e.2 - G.h e.1) * (G.x p - G.at_ e (G.h p)) := Rat.mul_pos (by grind) (by grind)
    grind
/-- an affine function that is above 0 and then below 0 -/
theorem aff_low {k s H1 H2 H : Rat} (h12 : H1 < H2) (p1 : 0 < k + s * H1) (p2 : k + s * H2 < 0) (hH : H ≤ H1) : 0 < k + s * H := by
  have a1 : s * (H2 - H1) < 0 := by grind
  have a2 : s < 0 := by
    false_or_by_contra
    have : 0 ≤ s * (H2 - H1) := Rat.mul_nonneg (by grind) (by grind)
    grind
  have a3 : 0 ≤ (-s) * (H1 - H) := Rat.mul_nonneg (by grind) (by grind)
  grind
theorem aff_high {k s H1 H2 H : Rat} (h12 : H1 < H2) (p1 : 0 < k + s * H1) (p2 : k + s * H2 < 0) (hH : H2 ≤ H) : k + s * H < 0 := by
  have a1 : s * (H2 - H1) < 0 := by grind
  have a2 : s < 0 := by
    false_or_by_contra
    have : 0 ≤ s * (H2 - H1) := Rat.mul_nonneg (by grind) (by grind)
    grind
  have a3 : 0 ≤ (-s) * (H - H2) := Rat.mul_nonneg (by grind) (by grind)
  grind
/-- an affine function that is at least 0 at two places, above 0 at one of them, is above 0 strictly between -/
theorem aff_mid {k s H1 H2 H : Rat} (c1 : H1 < H) (c2 : H < H2) (p1 : 0 ≤ k + s * H1) (p2 : 0 ≤ k + s * H2) (p : 0 < k + s * H1 ∨ 0 < k + s * H2) : 0 < k + s * H := by
  have e : (H2 - H1) * (k + s * H) = (H2 - H) * (k + s * H1) + (H - H1) * (k + s * H2) := by grind
  have q1 : 0 ≤ (H2 - H) * (k + s * H1) := Rat.mul_nonneg (by grind) p1
  have q2 : 0 ≤ (H - H1) * (k + s * H2) := Rat.mul_nonneg (by grind) p2
  have q : 0 < (H2 - H1) * (k + s * H) := by
    rcases p with p | p
    · have : 0 < (H2 - H) * (k + s * H1) := Rat.mul_pos (by grind) p
      grind
    · have : 0 < (H - H1) * (k + s * H2) := Rat.mul_pos (by grind) p
      grind
  false_or_by_contra
  have : 0 ≤ (H2 - H1) * (- (k + s * H)) := Rat.mul_nonneg (by grind) (by grind)
  grind
def dk (e f : Nat × Nat) : Rat := (G.x f.1 - G.sl f.1 f.2 * G.h f.1) - (G.x e.1 - G.sl e.1 e.2 * G.h e.1)
def ds (e f : Nat × Nat) : Rat := G.sl f.1 f.2 - G.sl e.1 e.2
theorem diff_eq (e f : Nat × Nat) (H : Rat) : G.at_ f H - G.at_ e H = dk (G := G) e f + ds (G := G) e f * H := by
  unfold at_ dk ds
  grind
end Geo
end Lead
namespace Lead
namespace Geo
variable {G : Geo}
theorem Ok.hlt (O : G.Ok) {i j : Nat} (hi : i < G.n) (hj : j < G.n) : G.h i < G.h j ↔ i < j := by
  constructor
  · intro z
    false_or_by_contra
    rcases Nat.lt_or_ge j i with q | q
    · have := O.mono j i q hi
      grind
    · have : i = j := by omega
      subst this
      grind
  · intro z
    exact O.mono i j z hj
theorem Ok.hle (O : G.Ok) {i j : Nat} (hi : i < G.n) (hj : j < G.n) : G.h i ≤ G.h j ↔ i ≤ j := by
  have := O.hlt hj hi
  grind
theorem Ok.hline (O : G.Ok) {e : Nat × Nat} (he : e ∈ G.L) : G.h e.1 < G.h e.2 := O.mono _ _ (O.lt e he).1 (O.lt e he).2
/-- two lines do not change sides -/
theorem no_flip (O : G.Ok) {e f : Nat × Nat} (he : e ∈ G.L) (hf : f ∈ G.L) {H1 H2 : Rat} (h12 : H1 < H2) (a1 : G.h e.1 ≤ H1) (a2 : G.h f.1 ≤ H1) (b1 : H2 ≤ G.h e.2) (b2 : H2 ≤ G.h f.2)
    (p1 : G.at_ e H1 < G.at_ f H1) (p2 : G.at_ f H2 < G.at_ e H2) : False := by
  have le := O.hline he
  have lf := O.hline hf
  have q1 : 0 < dk (G := G) e f + ds (G := G) e f * H1 := by rw [← diff_eq]; grind
  have q2 : dk (G := G) e f + ds (G := G) e f * H2 < 0 := by rw [← diff_eq]; grind
  have r1 := aff_low h12 q1 q2 a1
  have r2 := aff_low h12 q1 q2 a2
  have r3 := aff_high h12 q1 q2 b1
  have r4 := aff_high h12 q1 q2 b2
  rw [← diff_eq] at r1 r2 r3 r4
  rw [at_low] at r1 r2
  rw [at_high le] at r3
  rw [at_high lf] at r4
  have s1 := (tn_pos lf (p := e.1)).mpr (by grind)
  have s2 := (tn_neg lf (p := e.2)).mpr (by grind)
  have s3 := (tn_neg le (p := f.1)).mpr (by grind)
  have s4 := (tn_pos le (p := f.2)).mpr (by grind)
  exact O.cros e he f hf ⟨.inl ⟨s1, s2⟩, .inr ⟨s3, s4⟩⟩
/-- no point on a line -/
theorem off (O : G.Ok) {e : Nat × Nat} (he : e ∈ G.L) {v : Nat} (h1 : e.1 < v) (h2 : v < e.2) : G.at_ e (G.h v) ≠ G.x v := by
  intro z
  apply O.free e he v h1 h2
  rw [tn_at (O.hline he), z]
  grind
theorem aff_zero {k s H1 H2 H : Rat} (h : H1 ≠ H2) (p1 : k + s * H1 = 0) (p2 : k + s * H2 = 0) : k + s * H = 0 := by
  have : s * (H1 - H2) = 0 := by grind
  have s0 : s = 0 := by grind
  subst s0
  grind
/-- through 0: the signs at both sides -/
theorem aff_thru {k s H1 H2 H : Rat} (c1 : H1 < H) (c2 : H < H2) (p : k + s * H = 0) (p1 : 0 < k + s * H1) : k + s * H2 < 0 := by
  false_or_by_contra
  have := aff_mid c1 c2 (k := k) (s := s) (by grind) (by grind) (.inl p1)
  grind
theorem apart (O : G.Ok) {e f : Nat × Nat} (he : e ∈ G.L) (hf : f ∈ G.L) (ne : e ≠ f) {H : Rat} (a1 : G.h e.1 < H) (a2 : G.h f.1 < H) (b1 : H < G.h e.2) (b2 : H < G.h f.2) : G.at_ e H ≠ G.at_ f H := by
  intro z
  have le := O.hline he
  have lf := O.hline hf
  have ie := O.lt e he
  have jf := O.lt f hf
  have z0 : dk (G := G) e f + ds (G := G) e f * H = 0 := by rw [← diff_eq]; grind
  obtain ⟨lo, lo1, lo2, lo3, lo4⟩ : ∃ lo, G.h e.1 ≤ lo ∧ G.h f.1 ≤ lo ∧ lo < H ∧ (lo = G.h e.1 ∨ lo = G.h f.1) := by
    by_cases c : G.h e.1 ≤ G.h f.1
    · exact ⟨G.h f.1, c, by grind, a2, .inr rfl⟩
    · exact ⟨G.h e.1, by grind, by grind, a1, .inl rfl⟩
  obtain ⟨hi, hi1, hi2, hi3, hi4⟩ : ∃ hi, hi ≤ G.h e.2 ∧ hi ≤ G.h f.2 ∧ H < hi ∧ (hi = G.h e.2 ∨ hi = G.h f.2) := by
    by_cases c : G.h e.2 ≤ G.h f.2
    · exact ⟨G.h e.2, by grind, by grind, b1, .inl rfl⟩
    · exact ⟨G.h f.2, by grind, by grind, b2, .inr rfl⟩
  rcases (by grind : 0 < dk (G := G) e f + ds (G := G) e f * lo ∨ dk (G := G) e f + ds (G := G) e f * lo < 0 ∨ dk (G := G) e f + ds (G := G) e f * lo = 0) with c | c | c
  · have d := aff_thru lo3 hi3 z0 c
    rw [← diff_eq] at c d
    exact no_flip O he hf (by grind) lo1 lo2 hi1 hi2 (by grind) (by grind)
  · have d := aff_thru (k := - dk (G := G) e f) (s := - ds (G := G) e f) lo3 hi3 (by grind) (by grind)
    have d2 : 0 < dk (G := G) e f + ds (G := G) e f * hi := by grind
    rw [← diff_eq] at c d2
    exact no_flip O hf he (by grind) lo2 lo1 hi2 hi1 (by grind) (by grind)
  · have al : ∀ H', G.at_ f H' = G.at_ e H' := by
      intro H'
      have := aff_zero (k := dk (G := G) e f) (s := ds (G := G) e f) (H1 := lo) (H2 := H) (H := H') (by grind) c z0
      rw [← diff_eq] at this
      grind
    have n1 : e.1 = f.1 := by
      rcases Nat.lt_trichotomy e.1 f.1 with q | q | q
      · have w : f.1 < e.2 := (O.hlt (by omega) (by omega)).mp (by grind)
        have := off O he q w
        rw [← al, at_low] at this
        exact absurd rfl this
      · exact q
      · have w : e.1 < f.2 := (O.hlt (by omega) (by omega)).mp (by grind)
        have := off O hf q w
        rw [al, at_low] at this
        exact absurd rfl this
    have n2 : e.2 = f.2 := by
      rcases Nat.lt_trichotomy e.2 f.2 with q | q | q
      · have := off O hf (v := e.2) (by omega) q
        rw [al, at_high le] at this
        exact absurd rfl this
      · exact q
      · have := off O he (v := f.2) (by omega) q
        rw [← al, at_high lf] at this
        exact absurd rfl this
    exact ne (Prod.ext n1 n2)
/-- the side strictly within both is the side at any height of both at which they are apart -/
theorem same_side (O : G.Ok) {e f : Nat × Nat} (he : e ∈ G.L) (hf : f ∈ G.L) {H H' : Rat} (a1 : G.h e.1 < H) (a2 : G.h f.1 < H) (b1 : H < G.h e.2) (b2 : H < G.h f.2)
    (c1 : G.h e.1 ≤ H') (c2 : G.h f.1 ≤ H') (d1 : H' ≤ G.h e.2) (d2 : H' ≤ G.h f.2) (ne : G.at_ e H' ≠ G.at_ f H') : G.at_ e H < G.at_ f H ↔ G.at_ e H' < G.at_ f H' := by
  have nef : e ≠ f := by rintro rfl; exact ne rfl
  have ap := apart O he hf nef a1 a2 b1 b2
  rcases (by grind : H < H' ∨ H' < H ∨ H = H') with z | z | z
  · constructor
    · intro q
      false_or_by_contra
      exact no_flip O he hf z (by grind) (by grind) d1 d2 q (by grind)
    · intro q
      false_or_by_contra
      exact no_flip O hf he z (by grind) (by grind) d2 d1 (by grind) q
  · constructor
    · intro q
      false_or_by_contra
      exact no_flip O hf he z c2 c1 (by grind) (by grind) (by grind) q
    · intro q
      false_or_by_contra
      exact no_flip O he hf z c1 c2 (by grind) (by grind) q (by grind)
  · subst z
    exact Iff.rfl
/-- a line crosses a level -/
def cr (f : Nat × Nat) (t : Nat) : Prop := f.1 ≤ t ∧ t < f.2
instance (f : Nat × Nat) (t : Nat) : Decidable (cr f t) := by unfold cr; infer_instance
theorem lev_in (O : G.Ok) {t : Nat} (ht : t + 1 < G.n) : G.h t < G.lev t ∧ G.lev t < G.h (t + 1) := by
  have := O.mono t (t + 1) (by omega) ht
  unfold lev
  grind
theorem cr_in (O : G.Ok) {f : Nat × Nat} {t : Nat} (hf : f ∈ G.L) (c : cr f t) : G.h f.1 ≤ G.h t ∧ G.h (t + 1) ≤ G.h f.2 ∧ G.h f.1 < G.lev t ∧ G.lev t < G.h f.2 := by
  have j := O.lt f hf
  have q := lev_in O (t := t) (by have := c.2; omega)
  have r1 := (O.hle (i := f.1) (j := t) (by omega) (by have := c.2; omega)).mpr c.1
  have r2 := (O.hle (i := t + 1) (j := f.2) (by have := c.2; omega) (by omega)).mpr c.2
  grind
/-- right of e or e itself, at a level -/
def rt (G : Geo) (t : Nat) (e f : Nat × Nat) : Prop := G.at_ e (G.lev t) ≤ G.at_ f (G.lev t)
instance (t : Nat) (e f : Nat × Nat) : Decidable (rt G t e f) := by unfold rt; infer_instance
theorem rt_self (t : Nat) (e : Nat × Nat) : rt G t e e := by unfold rt; grind
theorem rt_iff (O : G.Ok) {e f : Nat × Nat} (he : e ∈ G.L) (hf : f ∈ G.L) {t : Nat} (ce : cr e t) (cf : cr f t) {H' : Rat} (c1 : G.h e.1 ≤ H') (c2 : G.h f.1 ≤ H') (d1 : H' ≤ G.h e.2) (d2 : H' ≤ G.h f.2) (ne : G.at_ e H' ≠ G.at_ f H') :
    rt G t e f ↔ G.at_ e H' < G.at_ f H' := by
  have nef : e ≠ f := by rintro rfl; exact ne rfl
  have q1 := cr_in O he ce
  have q2 := cr_in O hf cf
  have s := same_side O he hf q1.2.2.1 q2.2.2.1 q1.2.2.2 q2.2.2.2 c1 c2 d1 d2 ne
  have ap := apart O he hf nef q1.2.2.1 q2.2.2.1 q1.2.2.2 q2.2.2.2
  rw [← s]
  unfold rt
  grind
/-- the same at the next level -/
theorem rt_next (O : G.Ok) {e f : Nat × Nat} (he : e ∈ G.L) (hf : f ∈ G.L) {t : Nat} (ce : cr e t) (cf : cr f t) (ce2 : cr e (t + 1)) (cf2 : cr f (t + 1)) : rt G t e f ↔ rt G (t + 1) e f := by
  by_cases c : e = f
  · subst c
    exact iff_of_true (rt_self _ _) (rt_self _ _)
  have p1 := cr_in O he ce2
  have p2 := cr_in O hf cf2
  have z := apart O he hf c p1.2.2.1 p2.2.2.1 p1.2.2.2 p2.2.2.2
  rw [rt_iff O he hf ce cf (H' := G.lev (t + 1)) (by grind) (by grind) (by grind) (by grind) z]
  unfold rt
  grind
/-- f ends at or begins from a point within e's heights -/
theorem rt_point (O : G.Ok) {e f : Nat × Nat} (he : e ∈ G.L) (hf : f ∈ G.L) {t v : Nat} (ce : cr e t) (cf : cr f t) (h1 : e.1 < v) (h2 : v < e.2) (hv : f.1 = v ∨ f.2 = v) : rt G t e f ↔ G.at_ e (G.h v) < G.x v := by
  have ie := O.lt e he
  have jf := O.lt f hf
  have o := off O he h1 h2
  have m1 := O.mono _ _ h1 (by omega)
  have m2 := O.mono _ _ h2 (by omega)
  have lf := O.hline hf
  have e1 : G.at_ f (G.h v) = G.x v := by
    rcases hv with rfl | rfl
    · exact at_low f
    · exact at_high lf
  rw [rt_iff O he hf ce cf (H' := G.h v) (by grind) (by rcases hv with rfl | rfl <;> grind) (by grind) (by rcases hv with rfl | rfl <;> grind) (by grind), e1]
/-- an end of e within f's heights -/
theorem rt_end (O : G.Ok) {e f : Nat × Nat} (he : e ∈ G.L) (hf : f ∈ G.L) {t v : Nat} (ce : cr e t) (cf : cr f t) (h1 : f.1 < v) (h2 : v < f.2) (hv : e.1 = v ∨ e.2 = v) : rt G t e f ↔ G.x v < G.at_ f (G.h v) := by
  have ie := O.lt e he
  have jf := O.lt f hf
  have o := off O hf h1 h2
  have m1 := O.mono _ _ h1 (by omega)
  have m2 := O.mono _ _ h2 (by omega)
  have le := O.hline he
  have e1 : G.at_ e (G.h v) = G.x v := by
    rcases hv with rfl | rfl
    · exact at_low e
    · exact at_high le
  rw [rt_iff O he hf ce cf (H' := G.h v) (by rcases hv with rfl | rfl <;> grind) (by grind) (by rcases hv with rfl | rfl <;> grind) (by grind) (by grind), e1]
/-- both begin at one point: by slope -/
theorem rt_low (O : G.Ok) {e f : Nat × Nat} (he : e ∈ G.L) {t : Nat} (ce : cr e t) (h : e.1 = f.1) : rt G t e f ↔ G.sl e.1 e.2 ≤ G.sl f.1 f.2 := by
  have q := cr_in O he ce
  unfold rt at_
  rw [h] at q ⊢
  have d : 0 < G.lev t - G.h f.1 := by grind
  constructor
  · intro z
    false_or_by_contra
    have : 0 < (G.sl f.1 e.2 - G.sl f.1 f.2) * (G.lev t - G.h f.1) := Rat.mul_pos (by grind) d
    grind
  · intro z
    have : 0 ≤ (G.sl f.1 f.2 - G.sl f.1 e.2) * (G.lev t - G.h f.1) := Rat.mul_nonneg (by grind) (by grind)
    grind
/-- both end at one point: by slope, the less to the right -/
theorem rt_high (O : G.Ok) {e f : Nat × Nat} (he : e ∈ G.L) (hf : f ∈ G.L) {t : Nat} (ce : cr e t) (h : e.2 = f.2) : rt G t e f ↔ G.sl f.1 f.2 ≤ G.sl e.1 e.2 := by
  have q := cr_in O he ce
  have e1 := at_high (O.hline he)
  have e2 := at_high (O.hline hf)
  unfold rt
  unfold at_ at e1 e2 ⊢
  rw [h] at e1 q ⊢
  have d : 0 < G.h f.2 - G.lev t := by grind
  constructor
  · intro z
    false_or_by_contra
    have : 0 < (G.sl f.1 f.2 - G.sl e.1 f.2) * (G.h f.2 - G.lev t) := Rat.mul_pos (by grind) d
    grind
  · intro z
    have : 0 ≤ (G.sl e.1 f.2 - G.sl f.1 f.2) * (G.h f.2 - G.lev t) := Rat.mul_nonneg (by grind) (by grind)
    grind
end Geo
end Lead
namespace Lead
namespace Geo
variable {G : Geo} {m : Nat × Nat → Int}
/-- what flows over the lines goes on at each point -/
def Circ (G : Geo) (m : Nat × Nat → Int) : Prop := ∀ v, sm G.L (fun f => if f.1 = v then m f else 0) = sm G.L (fun f => if f.2 = v then m f else 0)
/-- what flows up over e and over all right of it, at a level -/
def A (G : Geo) (m : Nat × Nat → Int) (t : Nat) (e : Nat × Nat) : Int := sm G.L (fun f => if cr f t ∧ rt G t e f then m f else 0)
theorem A_step (O : G.Ok) (C : Circ G m) {e : Nat × Nat} (he : e ∈ G.L) {t : Nat} (h1 : e.1 ≤ t) (h2 : t + 1 < e.2) : A G m t e = A G m (t + 1) e := by
  have ce : cr e t := ⟨h1, by omega⟩
  have ce2 : cr e (t + 1) := ⟨by omega, h2⟩
  have o := off O he (v := t + 1) (by omega) h2
  have s1 : A G m t e = sm G.L (fun f => if (cr f t ∧ cr f (t + 1)) ∧ rt G t e f then m f else 0) + sm G.L (fun f => if G.at_ e (G.h (t + 1)) < G.x (t + 1) then (if f.2 = t + 1 then m f else 0) else 0) := by
    unfold A
    rw [← sm_add]
    refine sm_congr fun f hf => ?_
    have jf := O.lt f hf
    by_cases c : f.2 = t + 1
    · have cf : cr f t := ⟨by omega, by omega⟩
      have n2 : ¬ cr f (t + 1) := by rintro ⟨q1, q2⟩; omega
      have r := rt_point O he hf ce cf (v := t + 1) (by omega) h2 (.inr c)
      simp only [r, c, cf, n2, true_and, and_false, false_and, if_false, if_true]
      split <;> omega
    · have n2 : cr f t ↔ (cr f t ∧ cr f (t + 1)) := by unfold cr; omega
      by_cases d : cr f t ∧ cr f (t + 1)
      · simp only [d.1, d.2, c, true_and, if_false]
        split <;> split <;> omega
      · have d2 : ¬ cr f t := fun z => d (n2.mp z)
        simp only [d, d2, c, false_and, if_false]
        split <;> omega
  have s2 : A G m (t + 1) e = sm G.L (fun f => if (cr f t ∧ cr f (t + 1)) ∧ rt G t e f then m f else 0) + sm G.L (fun f => if G.at_ e (G.h (t + 1)) < G.x (t + 1) then (if f.1 = t + 1 then m f else 0) else 0) := by
    unfold A
    rw [← sm_add]
    refine sm_congr fun f hf => ?_
    have jf := O.lt f hf
    by_cases c : f.1 = t + 1
    · have cf : cr f (t + 1) := ⟨by omega, by omega⟩
      have n2 : ¬ cr f t := by rintro ⟨q1, q2⟩; omega
      have r := rt_point O he hf ce2 cf (v := t + 1) (by omega) h2 (.inl c)
      simp only [r, c, cf, n2, true_and, false_and, if_false, if_true]
      split <;> omega
    · have n2 : cr f (t + 1) ↔ (cr f t ∧ cr f (t + 1)) := by unfold cr; omega
      by_cases d : cr f t ∧ cr f (t + 1)
      · have r := rt_next O he hf ce d.1 ce2 d.2
        simp only [d.1, d.2, r, c, true_and, if_false]
        by_cases z : rt G (t + 1) e f
        · rw [if_pos z]
          split <;> omega
        · rw [if_neg z]
          split <;> omega
      · have d2 : ¬ cr f (t + 1) := fun z => d (n2.mp z)
        rw [if_neg (fun z => d2 z.1), if_neg (fun z => d z.1), if_neg c]
        split <;> omega
  rw [s1, s2, sm_if, sm_if, C (t + 1)]
theorem A_level (O : G.Ok) (C : Circ G m) {e : Nat × Nat} (he : e ∈ G.L) : ∀ (k t : Nat), e.1 ≤ t → t + k < e.2 → A G m t e = A G m (t + k) e
  | 0, t, h1, h2 => rfl
  | k + 1, t, h1, h2 => by
    rw [A_step O C he h1 (by omega), A_level O C he k (t + 1) (by omega) (by omega)]
    congr 1
    omega
theorem A_any (O : G.Ok) (C : Circ G m) {e : Nat × Nat} (he : e ∈ G.L) {t u : Nat} (h1 : cr e t) (h2 : cr e u) : A G m t e = A G m u e := by
  obtain ⟨a1, a2⟩ := h1
  obtain ⟨b1, b2⟩ := h2
  have q1 := A_level O C he (t - e.1) e.1 (Nat.le_refl _) (by omega)
  have q2 := A_level O C he (u - e.1) e.1 (Nat.le_refl _) (by omega)
  rw [show e.1 + (t - e.1) = t by omega] at q1
  rw [show e.1 + (u - e.1) = u by omega] at q2
  rw [← q1, ← q2]
/-- left of the way from v to y -/
def W (G : Geo) (m : Nat × Nat → Int) (v y : Nat) : Int := if v < y then A G m v (v, y) else A G m y (y, v) - m (y, v)
/-- the flow from v to y -/
def fw (m : Nat × Nat → Int) (v y : Nat) : Int := if v < y then m (v, y) else - m (y, v)
/-- v and y are joined by a line -/
def adj (G : Geo) (v y : Nat) : Prop := (v, y) ∈ G.L ∨ (y, v) ∈ G.L
instance (v y : Nat) : Decidable (adj G v y) := by unfold adj; infer_instance
theorem adj_symm {v y : Nat} (h : adj G v y) : adj G y v := h.symm
theorem adj_line (O : G.Ok) {v y : Nat} (h : adj G v y) : (v < y ∧ (v, y) ∈ G.L) ∨ (y < v ∧ (y, v) ∈ G.L) := by
  rcases h with h | h
  · exact .inl ⟨(O.lt _ h).1, h⟩
  · exact .inr ⟨(O.lt _ h).1, h⟩
theorem adj_ne (O : G.Ok) {v y : Nat} (h : adj G v y) : v ≠ y := by
  rcases adj_line O h with q | q <;> omega
theorem adj_lt (O : G.Ok) {v y : Nat} (h : adj G v y) : v < G.n ∧ y < G.n := by
  rcases h with q | q
  · have := O.lt _ q
    dsimp at this
    omega
  · have := O.lt _ q
    dsimp at this
    omega
theorem W_sub (O : G.Ok) {v y : Nat} (h : adj G v y) : W G m v y - W G m y v = fw m v y := by
  unfold W fw
  rcases adj_line O h with ⟨q, _⟩ | ⟨q, _⟩
  · rw [if_pos q, if_neg (by omega), if_pos q]
    omega
  · rw [if_neg (by omega), if_pos q, if_neg (by omega)]
    omega
/-- y comes ahead of z, clockwise at v from the west -/
def clk (G : Geo) (v y z : Nat) : Prop := (v < y ∧ z < v) ∨ ((v < y ∧ v < z ∨ y < v ∧ z < v) ∧ G.sl v y < G.sl v z)
instance (v y z : Nat) : Decidable (clk G v y z) := by unfold clk; infer_instance
/-- what lies right of a point's own height -/
def B (G : Geo) (m : Nat × Nat → Int) (v : Nat) : Int := sm G.L (fun f => if (f.1 < v ∧ v < f.2) ∧ G.x v < G.at_ f (G.h v) then m f else 0)
/-- sums over a point's lines -/
def at_sum (G : Geo) (v : Nat) (g : Nat → Int) : Int := sm G.L (fun f => (if f.1 = v then g f.2 else 0) + (if f.2 = v then g f.1 else 0))
theorem at_sum_congr (O : G.Ok) {v : Nat} {g k : Nat → Int} (h : ∀ y, adj G v y → g y = k y) : at_sum G v g = at_sum G v k := by
  refine sm_congr fun f hf => ?_
  have jf := O.lt f hf
  by_cases c : f.1 = v
  · have : adj G v f.2 := .inl (by rw [← c]; exact hf)
    rw [if_pos c, if_pos c, h _ this, if_neg (by omega), if_neg (by omega)]
  · by_cases d : f.2 = v
    · have : adj G v f.1 := .inr (by rw [← d]; exact hf)
      rw [if_neg c, if_neg c, if_pos d, if_pos d, h _ this]
    · rw [if_neg c, if_neg c, if_neg d, if_neg d]
theorem at_sum_add {v : Nat} {g k : Nat → Int} : at_sum G v (fun y => g y + k y) = at_sum G v g + at_sum G v k := by
  unfold at_sum
  rw [← sm_add]
  refine sm_congr fun f hf => ?_
  dsimp only
  split <;> split <;> omega
theorem at_sum_sub {v : Nat} {g k : Nat → Int} : at_sum G v (fun y => g y - k y) = at_sum G v g - at_sum G v k := by
  unfold at_sum
  rw [← sm_sub]
  refine sm_congr fun f hf => ?_
  dsimp only
  split <;> split <;> omega
theorem at_sum_zero {v : Nat} : at_sum G v (fun _ => 0) = 0 := by
  unfold at_sum
  refine sm_zero_of fun f hf => ?_
  dsimp only
  split <;> split <;> omega
theorem circ_at (O : G.Ok) (C : Circ G m) (v : Nat) : at_sum G v (fw m v) = 0 := by
  have e : at_sum G v (fw m v) = sm G.L (fun f => if f.1 = v then m f else 0) - sm G.L (fun f => if f.2 = v then m f else 0) := by
    unfold at_sum
    rw [← sm_sub]
    refine sm_congr fun f hf => ?_
    have jf := O.lt f hf
    unfold fw
    have eta : m (f.1, f.2) = m f := rfl
    by_cases c : f.1 = v
    · subst c
      rw [if_pos rfl, if_pos rfl, if_pos jf.1, if_neg (by omega), if_neg (by omega)]
      omega
    · by_cases d : f.2 = v
      · subst d
        rw [if_neg c, if_neg c, if_pos rfl, if_pos rfl, if_neg (by omega)]
        omega
      · rw [if_neg c, if_neg c, if_neg d, if_neg d]
        omega
  rw [e, C v]
  omega
/-- all that goes up from v and what is right of v -/
def Cv (G : Geo) (m : Nat × Nat → Int) (v : Nat) : Int := B G m v + at_sum G v (fun y => if v < y then fw m v y else 0)
theorem W_up (O : G.Ok) {v y : Nat} (h : adj G v y) (q : v < y) : W G m v y = B G m v + at_sum G v (fun z => if v < z ∧ G.sl v y ≤ G.sl v z then fw m v z else 0) := by
  have hl : (v, y) ∈ G.L := by
    rcases adj_line O h with z | z
    · exact z.2
    · omega
  unfold W B at_sum
  rw [if_pos q, ← sm_add]
  unfold A
  refine sm_congr fun f hf => ?_
  have jf := O.lt f hf
  have ce : cr (v, y) v := ⟨Nat.le_refl _, q⟩
  by_cases c : f.1 = v
  · have cf : cr f v := ⟨by omega, by omega⟩
    have r := rt_low O hl ce (f := f) c.symm
    dsimp only at r
    have r' : rt G v (v, y) f ↔ G.sl v y ≤ G.sl v f.2 := by rw [r, c]
    have fv : v < f.2 := by omega
    have n1 : ¬ (f.1 < v ∧ v < f.2) := by omega
    have n2 : ¬ f.2 = v := by omega
    have fe : f = (v, f.2) := by rw [← c]
    simp only [cf, r', fv, n1, n2, c, fw, true_and, false_and, if_true, if_false]
    rw [← fe]
    split <;> omega
  · by_cases d : f.2 = v
    · have n1 : ¬ cr f v := by rintro ⟨a, b⟩; omega
      have n2 : ¬ (f.1 < v ∧ v < f.2) := by omega
      have n3 : ¬ v < f.1 := by omega
      simp only [n1, n2, n3, c, d, false_and, if_true, if_false]
      omega
    · by_cases e : f.1 < v ∧ v < f.2
      · have cf : cr f v := ⟨by omega, by omega⟩
        have r := rt_end O hl hf ce cf e.1 e.2 (.inl rfl)
        simp only [cf, r, e, c, d, true_and, if_false]
        split <;> simp_all
      · have n1 : ¬ cr f v := by rintro ⟨a, b⟩; omega
        simp only [n1, e, c, d, false_and, if_false]
        omega
theorem W_down (O : G.Ok) (C : Circ G m) {v y : Nat} (h : adj G v y) (q : y < v) : W G m v y = B G m v - at_sum G v (fun z => if z < v ∧ G.sl v z < G.sl v y then fw m v z else 0) := by
  have hl : (y, v) ∈ G.L := by
    rcases adj_line O h with z | z
    · omega
    · exact z.2
  have ce0 : cr (y, v) y := ⟨Nat.le_refl _, q⟩
  have ce : cr (y, v) (v - 1) := ⟨by dsimp; omega, by dsimp; omega⟩
  have e1 : m (y, v) = sm G.L (fun f => if f = (y, v) then m f else 0) := (sm_one O.nd hl).symm
  unfold W B at_sum
  rw [if_neg (by omega), A_any O C hl ce0 ce, e1, ← sm_sub]
  unfold A
  rw [← sm_sub]
  refine sm_congr fun f hf => ?_
  have jf := O.lt f hf
  by_cases c : f.2 = v
  · have cf : cr f (v - 1) := ⟨by omega, by omega⟩
    have r := rt_high O hl hf ce (f := f) c.symm
    dsimp only at r
    have r' : rt G (v - 1) (y, v) f ↔ G.sl v f.1 ≤ G.sl v y := by rw [r, c, G.sl_symm f.1 v, G.sl_symm y v]
    have n1 : ¬ (f.1 < v ∧ v < f.2) := by omega
    have n2 : ¬ f.1 = v := by omega
    have n3 : f.1 < v := by omega
    have n4 : ¬ v < f.1 := by omega
    have fe : f = (f.1, v) := by rw [← c]
    have eqv : f = (y, v) ↔ G.sl v f.1 = G.sl v y := by
      constructor
      · intro z
        rw [z]
      · intro z
        false_or_by_contra
        rename_i ne
        have cf' := cr_in O hf cf
        have ce' := cr_in O hl ce
        have ap := apart O hl hf (fun w => ne w.symm) ce'.2.2.1 cf'.2.2.1 ce'.2.2.2 cf'.2.2.2
        have r1 := (rt_high O hl hf ce (f := f) c.symm).mpr (by dsimp only; rw [c, G.sl_symm f.1 v, G.sl_symm y v]; grind)
        have r2 := (rt_high O hf hl cf (f := (y, v)) c).mpr (by dsimp only; rw [c, G.sl_symm f.1 v, G.sl_symm y v]; grind)
        unfold rt at r1 r2
        grind
    simp only [cf, r', eqv, n1, n2, n3, n4, c, fw, true_and, false_and, if_true, if_false]
    rw [← fe]
    grind
  · have ne : ¬ f = (y, v) := by intro z; rw [z] at c; exact c rfl
    by_cases d : f.1 = v
    · have n1 : ¬ cr f (v - 1) := by rintro ⟨a, b⟩; omega
      have n2 : ¬ (f.1 < v ∧ v < f.2) := by omega
      have n3 : ¬ f.2 < v := by omega
      simp only [n1, n2, n3, c, d, ne, false_and, if_true, if_false]
      omega
    · by_cases e : f.1 < v ∧ v < f.2
      · have cf : cr f (v - 1) := ⟨by omega, by omega⟩
        have r := rt_end O hl hf ce cf e.1 e.2 (.inr rfl)
        simp only [cf, r, e, c, d, ne, true_and, if_false]
        split <;> simp_all
      · have n1 : ¬ cr f (v - 1) := by rintro ⟨a, b⟩; omega
        simp only [n1, e, c, d, ne, false_and, if_false]
        omega
/-- the way from v to y: what is left of it, by the lines ahead of it clockwise -/
theorem W_corner (O : G.Ok) (C : Circ G m) {v y : Nat} (h : adj G v y) : W G m v y = Cv G m v - at_sum G v (fun z => if clk G v z y then fw m v z else 0) := by
  unfold Cv
  rcases adj_line O h with ⟨q, _⟩ | ⟨q, _⟩
  · rw [W_up O h q]
    have : at_sum G v (fun z => if v < z ∧ G.sl v y ≤ G.sl v z then fw m v z else 0) = at_sum G v (fun z => if v < z then fw m v z else 0) - at_sum G v (fun z => if clk G v z y then fw m v z else 0) := by
      rw [← at_sum_sub]
      refine at_sum_congr O fun z hz => ?_
      have nz := adj_ne O hz
      by_cases c : v < z
      · have e : clk G v z y ↔ G.sl v z < G.sl v y := by
          unfold clk
          constructor
          · rintro (w | w)
            · omega
            · exact w.2
          · intro w
            exact .inr ⟨.inl ⟨c, q⟩, w⟩
        by_cases d : G.sl v z < G.sl v y
        · have d2 : ¬ G.sl v y ≤ G.sl v z := by grind
          simp only [c, e, d, d2, true_and, if_true, if_false]
          omega
        · have d2 : G.sl v y ≤ G.sl v z := by grind
          simp only [c, e, d, d2, true_and, if_true, if_false]
          omega
      · have e : ¬ clk G v z y := by
          unfold clk
          rintro (w | w) <;> omega
        simp only [c, e, false_and, if_false]
        omega
    omega
  · rw [W_down O C h q]
    have : at_sum G v (fun z => if clk G v z y then fw m v z else 0) = at_sum G v (fun z => if v < z then fw m v z else 0) + at_sum G v (fun z => if z < v ∧ G.sl v z < G.sl v y then fw m v z else 0) := by
      rw [← at_sum_add]
      refine at_sum_congr O fun z hz => ?_
      have nz := adj_ne O hz
      by_cases c : v < z
      · have e : clk G v z y := .inl ⟨c, q⟩
        have n1 : ¬ z < v := by omega
        simp only [c, e, n1, false_and, if_true, if_false]
        omega
      · have e : clk G v z y ↔ G.sl v z < G.sl v y := by
          unfold clk
          constructor
          · rintro (w | w)
            · omega
            · exact w.2
          · intro w
            exact .inr ⟨.inr ⟨by omega, q⟩, w⟩
        have n1 : z < v := by omega
        simp only [c, e, n1, true_and, if_false]
        omega
    omega
end Geo
end Lead
namespace Lead
namespace Geo
variable {G : Geo} {m : Nat × Nat → Int}
theorem clk_trans {v a b c : Nat} (h1 : clk G v a b) (h2 : clk G v b c) : clk G v a c := by
  unfold clk at *
  grind
theorem clk_irr {v a : Nat} (h : clk G v a a) : False := by
  unfold clk at h
  grind
theorem clk_asymm {v a b : Nat} (h1 : clk G v a b) (h2 : clk G v b a) : False := clk_irr (clk_trans h1 h2)
theorem sl_ne (O : G.Ok) {v y z : Nat} (hy : adj G v y) (hz : adj G v z) (ne : y ≠ z) (s : v < y ∧ v < z ∨ y < v ∧ z < v) : G.sl v y ≠ G.sl v z := by
  intro w
  rcases s with ⟨s1, s2⟩ | ⟨s1, s2⟩
  · have l1 : (v, y) ∈ G.L := by rcases adj_line O hy with q | q; exact q.2; omega
    have l2 : (v, z) ∈ G.L := by rcases adj_line O hz with q | q; exact q.2; omega
    have c1 : cr (v, y) v := ⟨Nat.le_refl _, s1⟩
    have c2 : cr (v, z) v := ⟨Nat.le_refl _, s2⟩
    have q1 := cr_in O l1 c1
    have q2 := cr_in O l2 c2
    have ap := apart O l1 l2 (by intro q; exact ne (congrArg Prod.snd q)) q1.2.2.1 q2.2.2.1 q1.2.2.2 q2.2.2.2
    have r1 := (rt_low O l1 c1 (f := (v, z)) rfl).mpr (by dsimp only; grind)
    have r2 := (rt_low O l2 c2 (f := (v, y)) rfl).mpr (by dsimp only; grind)
    unfold rt at r1 r2
    grind
  · have l1 : (y, v) ∈ G.L := by rcases adj_line O hy with q | q; omega; exact q.2
    have l2 : (z, v) ∈ G.L := by rcases adj_line O hz with q | q; omega; exact q.2
    have c1 : cr (y, v) (v - 1) := ⟨by dsimp; omega, by dsimp; omega⟩
    have c2 : cr (z, v) (v - 1) := ⟨by dsimp; omega, by dsimp; omega⟩
    have q1 := cr_in O l1 c1
    have q2 := cr_in O l2 c2
    have ap := apart O l1 l2 (by intro q; exact ne (congrArg Prod.fst q)) q1.2.2.1 q2.2.2.1 q1.2.2.2 q2.2.2.2
    rw [G.sl_symm v y, G.sl_symm v z] at w
    have r1 := (rt_high O l1 l2 c1 (f := (z, v)) rfl).mpr (by dsimp only; grind)
    have r2 := (rt_high O l2 l1 c2 (f := (y, v)) rfl).mpr (by dsimp only; grind)
    unfold rt at r1 r2
    grind
theorem clk_total (O : G.Ok) {v y z : Nat} (hy : adj G v y) (hz : adj G v z) (ne : y ≠ z) : clk G v y z ∨ clk G v z y := by
  have n1 := adj_ne O hy
  have n2 := adj_ne O hz
  by_cases s : v < y ∧ v < z ∨ y < v ∧ z < v
  · have := sl_ne O hy hz ne s
    unfold clk
    grind
  · unfold clk
    omega
/-- w follows u clockwise at v -/
structure Nx (G : Geo) (v u w : Nat) : Prop where
  au : adj G v u
  aw : adj G v w
  is : (clk G v u w ∧ ∀ y, adj G v y → ¬ (clk G v u y ∧ clk G v y w)) ∨ ((∀ y, adj G v y → ¬ clk G v u y) ∧ (∀ y, adj G v y → ¬ clk G v y w))
theorem at_sum_one (O : G.Ok) {v u : Nat} (h : adj G v u) {g : Nat → Int} : at_sum G v (fun z => if z = u then g z else 0) = g u := by
  unfold at_sum
  rcases adj_line O h with ⟨q, hl⟩ | ⟨q, hl⟩
  · rw [← sm_one O.nd hl (g := fun f => g f.2)]
    refine sm_congr fun f hf => ?_
    have jf := O.lt f hf
    by_cases c : f = (v, u)
    · subst c
      dsimp only
      rw [if_pos rfl, if_pos rfl, if_pos rfl, if_neg (by omega)]
      omega
    · rw [if_neg c]
      have c2 : ¬ (f.1 = v ∧ f.2 = u) := fun z => c (Prod.ext z.1 z.2)
      dsimp only
      by_cases d : f.1 = v
      · rw [if_pos d, if_neg (fun z => c2 ⟨d, z⟩), if_neg (by omega)]
        rfl
      · rw [if_neg d]
        by_cases e : f.2 = v
        · rw [if_pos e, if_neg (by omega)]
          rfl
        · rw [if_neg e]
          rfl
  · rw [← sm_one O.nd hl (g := fun f => g f.1)]
    refine sm_congr fun f hf => ?_
    have jf := O.lt f hf
    by_cases c : f = (u, v)
    · subst c
      dsimp only
      rw [if_pos rfl, if_pos rfl, if_pos rfl, if_neg (by omega)]
      omega
    · rw [if_neg c]
      have c2 : ¬ (f.1 = u ∧ f.2 = v) := fun z => c (Prod.ext z.1 z.2)
      dsimp only
      by_cases d : f.1 = v
      · rw [if_pos d, if_neg (by omega), if_neg (by omega)]
        rfl
      · rw [if_neg d]
        by_cases e : f.2 = v
        · rw [if_pos e, if_neg (fun z => c2 ⟨z, e⟩)]
          rfl
        · rw [if_neg e]
          rfl
/-- the next way of an outline has the same left of it -/
theorem W_next (O : G.Ok) (C : Circ G m) {v u w : Nat} (N : Nx G v u w) : W G m u v = W G m v w := by
  have e1 := W_sub (m := m) O N.au
  have e2 := W_corner O C N.au
  have e3 := W_corner O C N.aw
  have e4 := at_sum_one O N.au (g := fw m v)
  have e0 := circ_at O C v
  rcases N.is with ⟨h1, h2⟩ | ⟨h1, h2⟩
  · have : at_sum G v (fun z => if clk G v z w then fw m v z else 0) = at_sum G v (fun z => if clk G v z u then fw m v z else 0) + at_sum G v (fun z => if z = u then fw m v z else 0) := by
      rw [← at_sum_add]
      refine at_sum_congr O fun z hz => ?_
      by_cases c : z = u
      · subst c
        rw [if_pos h1, if_neg clk_irr, if_pos rfl]
        omega
      · rw [if_neg c]
        by_cases d : clk G v z u
        · rw [if_pos d, if_pos (clk_trans d h1)]
          omega
        · rcases clk_total O hz N.au c with q | q
          · exact absurd q d
          · rw [if_neg d, if_neg (fun z' => h2 z hz ⟨q, z'⟩)]
            rfl
    omega
  · have : at_sum G v (fun z => if clk G v z w then fw m v z else 0) = 0 := by
      rw [at_sum_congr O (k := fun _ => 0) fun z hz => by rw [if_neg (h2 z hz)]]
      exact at_sum_zero
    have : at_sum G v (fw m v) = at_sum G v (fun z => if clk G v z u then fw m v z else 0) + at_sum G v (fun z => if z = u then fw m v z else 0) := by
      rw [← at_sum_add]
      refine at_sum_congr O fun z hz => ?_
      by_cases c : z = u
      · subst c
        rw [if_neg clk_irr, if_pos rfl]
        omega
      · rw [if_neg c]
        rcases clk_total O hz N.au c with q | q
        · rw [if_pos q]
          omega
        · exact absurd q (h1 z hz)
    omega
theorem Nx_inj (O : G.Ok) {v u u' w : Nat} (N : Nx G v u w) (N' : Nx G v u' w) : u = u' := by
  false_or_by_contra
  rename_i ne
  have t := clk_total O N.au N'.au ne
  rcases N.is with ⟨h1, h2⟩ | ⟨h1, h2⟩
  · rcases N'.is with ⟨k1, k2⟩ | ⟨k1, k2⟩
    · rcases t with t | t
      · exact h2 _ N'.au ⟨t, k1⟩
      · exact k2 _ N.au ⟨t, h1⟩
    · exact k2 _ N.au h1
  · rcases N'.is with ⟨k1, k2⟩ | ⟨k1, k2⟩
    · exact h2 _ N'.au k1
    · rcases t with t | t
      · exact h1 _ N'.au t
      · exact k1 _ N.au t
theorem at_sum_nonneg {v : Nat} {g : Nat → Int} (h : ∀ y, 0 ≤ g y) : 0 ≤ at_sum G v g := by
  refine sm_nonneg fun f hf => ?_
  have := h f.1
  have := h f.2
  try dsimp only
  split <;> split <;> omega
theorem at_sum_le (O : G.Ok) {v : Nat} {g k : Nat → Int} (h : ∀ y, adj G v y → g y ≤ k y) : at_sum G v g ≤ at_sum G v k := by
  have e : at_sum G v k = at_sum G v g + at_sum G v (fun y => if adj G v y then k y - g y else 0) := by
    rw [← at_sum_add]
    refine at_sum_congr O fun y hy => ?_
    rw [if_pos hy]
    omega
  have := at_sum_nonneg (G := G) (v := v) (g := fun y => if adj G v y then k y - g y else 0) fun y => by
    try dsimp only
    split
    · have := h y (by assumption)
      omega
    · omega
  omega
/-- a thing of ways that is the same for a way and its way back, and for a way and the next of its outline, is the same all around a point -/
theorem around_one (O : G.Ok) {K : Nat → Nat → Int} (Ks : ∀ v y, adj G v y → K v y = K y v) {nx : Nat → Nat → Nat} (hn : ∀ v u, adj G v u → Nx G v u (nx u v)) (Kn : ∀ u v, adj G v u → K u v = K v (nx u v)) {v : Nat} :
    ∀ (k : Nat) (y : Nat), adj G v y → at_sum G v (fun z => if clk G v y z then 1 else 0) ≤ k → ∃ z, adj G v z ∧ (∀ w, adj G v w → ¬ clk G v z w) ∧ K v y = K v z := by
  intro k
  induction k with
  | zero =>
    intro y hy hk
    refine ⟨y, hy, fun w hw c => ?_, rfl⟩
    have e := at_sum_one O hw (g := fun _ => 1)
    have := at_sum_le O (v := v) (g := fun z => if z = w then 1 else 0) (k := fun z => if clk G v y z then 1 else 0) fun z hz => by
      by_cases q : z = w
      · subst q
        rw [if_pos rfl, if_pos c]
        omega
      · rw [if_neg q]
        split <;> omega
    try dsimp only at e
    omega
  | succ k ih =>
    intro y hy hk
    have N := hn v y hy
    rcases N.is with ⟨h1, h2⟩ | ⟨h1, h2⟩
    · have e := at_sum_one O N.aw (g := fun _ => 1)
      have le := at_sum_le O (v := v) (g := fun z => (if clk G v (nx y v) z then 1 else 0) + (if z = nx y v then 1 else 0)) (k := fun z => if clk G v y z then 1 else 0) fun z hz => by
        by_cases q : z = nx y v
        · rw [q, if_pos rfl, if_pos h1, if_neg clk_irr]
          omega
        · rw [if_neg q]
          by_cases d : clk G v (nx y v) z
          · rw [if_pos d, if_pos (clk_trans h1 d)]
            omega
          · rw [if_neg d]
            split <;> omega
      rw [at_sum_add] at le
      try dsimp only at e
      obtain ⟨z, hz, z1, z2⟩ := ih (nx y v) N.aw (by omega)
      exact ⟨z, hz, z1, by rw [← z2, Ks v y hy, Kn y v hy]⟩
    · exact ⟨y, hy, h1, rfl⟩
theorem around (O : G.Ok) {K : Nat → Nat → Int} (Ks : ∀ v y, adj G v y → K v y = K y v) {nx : Nat → Nat → Nat} (hn : ∀ v u, adj G v u → Nx G v u (nx u v)) (Kn : ∀ u v, adj G v u → K u v = K v (nx u v)) {v y z : Nat} (hy : adj G v y) (hz : adj G v z) : K v y = K v z := by
  obtain ⟨a, a1, a2, a3⟩ := around_one O Ks hn Kn (v := v) (at_sum G v (fun w => if clk G v y w then 1 else 0)).toNat y hy (by omega)
  obtain ⟨b, b1, b2, b3⟩ := around_one O Ks hn Kn (v := v) (at_sum G v (fun w => if clk G v z w then 1 else 0)).toNat z hz (by omega)
  have : a = b := by
    false_or_by_contra
    rename_i ne
    rcases clk_total O a1 b1 ne with q | q
    · exact a2 _ b1 q
    · exact b2 _ a1 q
  rw [a3, b3, this]
/-- come to along lines, not over what is bad -/
inductive Way (G : Geo) (bad : Nat → Prop) (s : Nat) : Nat → Prop
  | here : Way G bad s s
  | step {v y : Nat} : Way G bad s v → adj G v y → ¬ bad y → Way G bad s y
theorem all_one (O : G.Ok) {K : Nat → Nat → Int} (Ks : ∀ v y, adj G v y → K v y = K y v) {nx : Nat → Nat → Nat} (hn : ∀ v u, adj G v u → Nx G v u (nx u v)) (Kn : ∀ u v, adj G v u → K u v = K v (nx u v)) {bad : Nat → Prop} {s v : Nat} (w : Way G bad s v) :
    ∀ {y z : Nat}, adj G s y → adj G v z → K s y = K v z := by
  induction w with
  | here => intro y z hy hz; exact around O Ks hn Kn hy hz
  | step w' a b ih =>
    intro y z hy hz
    rw [ih hy a, Ks _ _ a]
    exact around O Ks hn Kn (adj_symm a) hz
/-! flows of ways -/
def cnt (ds : List (Nat × Nat)) (d : Nat × Nat) : Int := sm ds (fun c => if c = d then 1 else 0)
def fl (ds : List (Nat × Nat)) (e : Nat × Nat) : Int := cnt ds e - cnt ds (e.2, e.1)
theorem fw_fl (ds : List (Nat × Nat)) (v y : Nat) : fw (fl ds) v y = cnt ds (v, y) - cnt ds (y, v) := by
  unfold fw fl
  split
  · rfl
  · dsimp only
    omega
theorem fl_sum (O : G.Ok) {ds : List (Nat × Nat)} (hd : ∀ d ∈ ds, adj G d.1 d.2) {g : Nat × Nat → Int} (hg : ∀ a b, g (b, a) = - g (a, b)) : sm G.L (fun f => fl ds f * g f) = sm ds g := by
  induction ds with
  | nil =>
    refine sm_zero_of fun f hf => ?_
    simp [fl, cnt, sm]
  | cons d ds ih =>
    have ih := ih fun c hc => hd c (by simp [hc])
    have e : ∀ f, fl (d :: ds) f * g f = fl ds f * g f + ((if f = d then g f else 0) - (if f = (d.2, d.1) then g f else 0)) := by
      intro f
      have : fl (d :: ds) f = fl ds f + ((if f = d then 1 else 0) - (if f = (d.2, d.1) then 1 else 0)) := by
        unfold fl cnt
        simp only [sm]
        have e1 : d = f ↔ f = d := ⟨Eq.symm, Eq.symm⟩
        have e2 : d = (f.2, f.1) ↔ f = (d.2, d.1) := by
          constructor
          · rintro rfl; rfl
          · rintro rfl; rfl
        simp only [e1, e2]
        omega
      rw [this, Int.add_mul]
      congr 1
      split <;> split <;> simp
    rw [sm_congr (h := fun f => fl ds f * g f + ((if f = d then g f else 0) - (if f = (d.2, d.1) then g f else 0))) fun f _ => e f, sm_add, ih, sm_sub]
    simp only [sm]
    rcases adj_line O (hd d (by simp)) with ⟨q, h⟩ | ⟨q, h⟩
    · rw [sm_one O.nd (a := d) h, sm_none (a := (d.2, d.1))]
      · omega
      · intro z
        have := (O.lt _ z).1
        dsimp only at this
        omega
    · rw [sm_one O.nd h, sm_none (a := d)]
      · have := hg d.1 d.2
        have e : g (d.1, d.2) = g d := rfl
        omega
      · intro z
        have := (O.lt _ z).1
        omega
/-- ways that come to each point as often as they leave it -/
theorem circ_fl (O : G.Ok) {ds : List (Nat × Nat)} (hd : ∀ d ∈ ds, adj G d.1 d.2) (hb : ∀ v, sm ds (fun d => (if d.1 = v then 1 else 0) - (if d.2 = v then 1 else 0)) = 0) : Circ G (fl ds) := by
  intro v
  have e := fl_sum O hd (g := fun d => (if d.1 = v then 1 else 0) - (if d.2 = v then 1 else 0)) (by intro a b; dsimp only; omega)
  rw [hb v] at e
  have e2 : sm G.L (fun f => fl ds f * ((if f.1 = v then 1 else 0) - (if f.2 = v then 1 else 0))) = sm G.L (fun f => if f.1 = v then fl ds f else 0) - sm G.L (fun f => if f.2 = v then fl ds f else 0) := by
    rw [← sm_sub]
    refine sm_congr fun f hf => ?_
    split <;> split <;> simp
  omega
end Geo
end Lead
namespace Lead
namespace Geo
variable {G : Geo} {m : Nat × Nat → Int} {nx : Nat → Nat → Nat}
def ph (nx : Nat → Nat → Nat) (d : Nat × Nat) : Nat × Nat := (d.2, nx d.1 d.2)
def it (nx : Nat → Nat → Nat) : Nat → Nat × Nat → Nat × Nat
  | 0, d => d
  | k + 1, d => it nx k (ph nx d)
theorem it_succ (k : Nat) (d : Nat × Nat) : it nx (k + 1) d = ph nx (it nx k d) := by
  induction k generalizing d with
  | zero => rfl
  | succ k ih =>
    show it nx (k + 1) (ph nx d) = _
    rw [ih]
    rfl
theorem it_add (i j : Nat) (d : Nat × Nat) : it nx (i + j) d = it nx i (it nx j d) := by
  induction i with
  | zero => simp [it]
  | succ i ih => rw [show i + 1 + j = (i + j) + 1 by omega, it_succ, it_succ, ih]
/-- a next way for each way -/
def Nxs (G : Geo) (nx : Nat → Nat → Nat) : Prop := ∀ v u, adj G v u → Nx G v u (nx u v)
theorem ph_adj (hn : Nxs G nx) {d : Nat × Nat} (h : adj G d.1 d.2) : adj G (ph nx d).1 (ph nx d).2 := (hn d.2 d.1 (adj_symm h)).aw
theorem it_adj (hn : Nxs G nx) {d : Nat × Nat} (h : adj G d.1 d.2) (k : Nat) : adj G (it nx k d).1 (it nx k d).2 := by
  induction k with
  | zero => exact h
  | succ k ih => rw [it_succ]; exact ph_adj hn ih
theorem ph_inj (O : G.Ok) (hn : Nxs G nx) {d e : Nat × Nat} (h : adj G d.1 d.2) (k : adj G e.1 e.2) (z : ph nx d = ph nx e) : d = e := by
  have e1 : d.2 = e.2 := congrArg Prod.fst z
  have e2 : nx d.1 d.2 = nx e.1 e.2 := congrArg Prod.snd z
  have n1 := hn d.2 d.1 (adj_symm h)
  have n2 := hn e.2 e.1 (adj_symm k)
  rw [← e2, ← e1] at n2
  exact Prod.ext (Nx_inj O n1 n2) e1
theorem it_inj (O : G.Ok) (hn : Nxs G nx) {d e : Nat × Nat} (h : adj G d.1 d.2) (k : adj G e.1 e.2) : ∀ {i : Nat}, it nx i d = it nx i e → d = e
  | 0, z => z
  | i + 1, z => by
    rw [it_succ, it_succ] at z
    exact it_inj O hn h k (ph_inj O hn (it_adj hn h i) (it_adj hn k i) z)
/-- an outline as ways: from s on, k of them, then s again for the first time -/
structure Orb (G : Geo) (nx : Nat → Nat → Nat) (s : Nat × Nat) (k : Nat) : Prop where
  pos : 0 < k
  adj : adj G s.1 s.2
  back : it nx k s = s
  first : ∀ i, 0 < i → i < k → it nx i s ≠ s
def orb (nx : Nat → Nat → Nat) (s : Nat × Nat) (k : Nat) : List (Nat × Nat) := (List.range k).map fun i => it nx i s
theorem orb_mem {s d : Nat × Nat} {k : Nat} : d ∈ orb nx s k ↔ ∃ i, i < k ∧ it nx i s = d := by
  unfold orb
  simp
theorem orb_perm {s : Nat × Nat} {k : Nat} (b : it nx k s = s) : ((orb nx s k).map (ph nx)).Perm (orb nx s k) := by
  have e1 : (List.range (k + 1)).map (fun i => it nx i s) = orb nx s k ++ [s] := by
    rw [List.range_succ, List.map_append]
    unfold orb
    simp [b]
  have e2 : (List.range (k + 1)).map (fun i => it nx i s) = s :: (orb nx s k).map (ph nx) := by
    rw [List.range_succ_eq_map, List.map_cons, List.map_map]
    unfold orb
    rw [List.map_map]
    show s :: _ = _
    congr 1
    refine List.map_congr_left fun i _ => ?_
    exact it_succ i s
  have p : (s :: (orb nx s k).map (ph nx)).Perm (s :: orb nx s k) := by
    rw [← e2, e1]
    exact List.perm_append_singleton s _
  exact (List.perm_cons s).mp p
theorem orb_adj (hn : Nxs G nx) {s : Nat × Nat} {k : Nat} (h : adj G s.1 s.2) : ∀ d ∈ orb nx s k, adj G d.1 d.2 := by
  intro d hd
  obtain ⟨i, _, rfl⟩ := orb_mem.mp hd
  exact it_adj hn h i
theorem orb_circ (O : G.Ok) (hn : Nxs G nx) {s : Nat × Nat} {k : Nat} (R : Orb G nx s k) : Circ G (fl (orb nx s k)) := by
  refine circ_fl O (orb_adj hn R.adj) fun v => ?_
  rw [sm_sub]
  have e := sm_perm (orb_perm R.back) (g := fun d => if d.1 = v then 1 else 0)
  rw [sm_map] at e
  have e2 : sm (orb nx s k) (fun b => if (ph nx b).1 = v then 1 else 0) = sm (orb nx s k) (fun b => if b.2 = v then 1 else 0) := rfl
  omega
theorem cnt_ph (O : G.Ok) (hn : Nxs G nx) {s : Nat × Nat} {k : Nat} (R : Orb G nx s k) {d : Nat × Nat} (hd : adj G d.1 d.2) : cnt (orb nx s k) (ph nx d) = cnt (orb nx s k) d := by
  unfold cnt
  rw [← sm_perm (orb_perm R.back), sm_map]
  refine sm_congr fun c hc => ?_
  have hc2 := orb_adj hn R.adj c hc
  by_cases z : c = d
  · rw [z, if_pos rfl, if_pos rfl]
  · rw [if_neg z, if_neg fun w => z (ph_inj O hn hc2 hd w)]
theorem orb_nodup (O : G.Ok) (hn : Nxs G nx) {s : Nat × Nat} {k : Nat} (R : Orb G nx s k) : (orb nx s k).Nodup := by
  unfold orb
  rw [List.nodup_iff_pairwise_ne, List.pairwise_map]
  refine List.Pairwise.imp_of_mem (R := fun a b => a < b) ?_ List.pairwise_lt_range
  intro a b ha hb lt z
  have hb := List.mem_range.mp hb
  rw [show b = a + (b - a) by omega, it_add] at z
  exact R.first (b - a) (by omega) (by omega) (it_inj O hn R.adj (it_adj hn R.adj _) z).symm
theorem cnt_one {ds : List (Nat × Nat)} (nd : ds.Nodup) (d : Nat × Nat) : cnt ds d = if d ∈ ds then 1 else 0 := by
  unfold cnt
  by_cases c : d ∈ ds
  · rw [if_pos c]
    exact sm_one nd c (g := fun _ => 1)
  · rw [if_neg c]
    exact sm_none c (g := fun _ => 1)
/-- the outer way: at the lowest point, the first clockwise -/
structure Outer (G : Geo) (o : Nat) : Prop where
  adj : adj G 0 o
  is : ∀ z, Geo.adj G 0 z → ¬ clk G 0 z o
theorem W_outer (O : G.Ok) (C : Circ G m) {o : Nat} (h : Outer G o) : W G m 0 o = 0 := by
  have e := W_corner O C h.adj
  have e1 : at_sum G 0 (fun z => if clk G 0 z o then fw m 0 z else 0) = 0 := by
    rw [at_sum_congr O (k := fun _ => 0) fun z hz => by rw [if_neg (h.is z hz)]]
    exact at_sum_zero
  have e2 := circ_at O C 0
  have e3 : at_sum G 0 (fun y => if 0 < y then fw m 0 y else 0) = at_sum G 0 (fw m 0) := by
    refine at_sum_congr O fun z hz => ?_
    have := adj_ne O hz
    rw [if_pos (by omega)]
  have e4 : B G m 0 = 0 := by
    unfold B
    refine sm_zero_of fun f hf => ?_
    rw [if_neg (by omega)]
  unfold Cv at e
  omega
/-- left of a way: how often it is in the outline, less how often the outer way is -/
theorem W_orb (O : G.Ok) (hn : Nxs G nx) (conn : ∀ v, v < G.n → Way G (fun _ => False) 0 v) {o : Nat} (h : Outer G o) {s : Nat × Nat} {k : Nat} (R : Orb G nx s k) {v y : Nat} (hv : adj G v y) :
    W G (fl (orb nx s k)) v y = cnt (orb nx s k) (v, y) - cnt (orb nx s k) (0, o) := by
  have C := orb_circ O hn R
  have z := W_outer O C h
  have e := all_one O (K := fun v y => W G (fl (orb nx s k)) v y - cnt (orb nx s k) (v, y)) (nx := nx) (bad := fun _ => False) (s := 0) (v := v) (by
    intro v y hv
    have q := W_sub (m := fl (orb nx s k)) O hv
    rw [fw_fl] at q
    try dsimp only
    omega) hn (by
    intro u v hv
    have q := W_next O C (hn v u hv)
    have r := cnt_ph O hn R (d := (u, v)) (adj_symm hv)
    unfold ph at r
    dsimp only at r ⊢
    omega) (conn v (adj_lt O hv).1) h.adj hv
  try dsimp only at e
  omega
theorem W_it (O : G.Ok) (hn : Nxs G nx) (C : Circ G m) {s : Nat × Nat} (hs : adj G s.1 s.2) : ∀ i, W G m (it nx i s).1 (it nx i s).2 = W G m s.1 s.2
  | 0 => rfl
  | i + 1 => by
    rw [it_succ, ← W_it O hn C hs i]
    have a := it_adj hn hs i
    exact (W_next O C (hn _ _ (adj_symm a))).symm
/-! no outline comes to a point twice -/
/-- a flow from a to b that does not touch c -/
def Flow (G : Geo) (c a b : Nat) : Prop := ∃ m : Nat × Nat → Int, (∀ v, sm G.L (fun f => if f.1 = v then m f else 0) - sm G.L (fun f => if f.2 = v then m f else 0) = (if a = v then 1 else 0) - (if b = v then 1 else 0)) ∧
  ∀ f, (f.1 = c ∨ f.2 = c) → m f = 0
theorem Flow.refl (c a : Nat) : Flow G c a a := by
  refine ⟨fun _ => 0, fun v => ?_, fun _ _ => rfl⟩
  have : ∀ (P : Nat × Nat → Prop) [DecidablePred P], sm G.L (fun f => if P f then (0 : Int) else 0) = 0 := by
    intro P _
    refine sm_zero_of fun f _ => ?_
    split <;> rfl
  rw [this, this]
  omega
theorem Flow.symm {c a b : Nat} (h : Flow G c a b) : Flow G c b a := by
  obtain ⟨m, h1, h2⟩ := h
  refine ⟨fun f => - m f, fun v => ?_, fun f hf => by dsimp only; rw [h2 f hf]; rfl⟩
  have e := h1 v
  have : ∀ (P : Nat × Nat → Prop) [DecidablePred P], sm G.L (fun f => if P f then - m f else 0) = - sm G.L (fun f => if P f then m f else 0) := by
    intro P _
    rw [← sm_neg]
    refine sm_congr fun f _ => ?_
    split <;> omega
  rw [this, this]
  omega
theorem Flow.trans {c a b d : Nat} (h : Flow G c a b) (k : Flow G c b d) : Flow G c a d := by
  obtain ⟨m, h1, h2⟩ := h
  obtain ⟨n, k1, k2⟩ := k
  refine ⟨fun f => m f + n f, fun v => ?_, fun f hf => by dsimp only; rw [h2 f hf, k2 f hf]; rfl⟩
  have e := h1 v
  have e2 := k1 v
  have : ∀ (P : Nat × Nat → Prop) [DecidablePred P], sm G.L (fun f => if P f then m f + n f else 0) = sm G.L (fun f => if P f then m f else 0) + sm G.L (fun f => if P f then n f else 0) := by
    intro P _
    rw [← sm_add]
    refine sm_congr fun f _ => ?_
    split <;> omega
  rw [this, this]
  omega
theorem flow_one (O : G.Ok) {v y : Nat} (h : adj G v y) (u : Nat) : sm G.L (fun f => if f.1 = u then fl [(v, y)] f else 0) - sm G.L (fun f => if f.2 = u then fl [(v, y)] f else 0) = (if v = u then 1 else 0) - (if y = u then 1 else 0) := by
  have e := fl_sum O (ds := [(v, y)]) (by intro d hd; rw [List.mem_singleton.mp hd]; exact h) (g := fun d => (if d.1 = u then 1 else 0) - (if d.2 = u then 1 else 0)) (by intro a b; dsimp only; omega)
  have e2 : sm G.L (fun f => fl [(v, y)] f * ((if f.1 = u then 1 else 0) - (if f.2 = u then 1 else 0))) = sm G.L (fun f => if f.1 = u then fl [(v, y)] f else 0) - sm G.L (fun f => if f.2 = u then fl [(v, y)] f else 0) := by
    rw [← sm_sub]
    refine sm_congr fun f hf => ?_
    split <;> split <;> simp
  simp only [sm] at e
  omega
theorem Flow.line (O : G.Ok) {c v y : Nat} (h : adj G v y) (hv : v ≠ c) (hy : y ≠ c) : Flow G c v y := by
  refine ⟨fl [(v, y)], flow_one O h, fun f hf => ?_⟩
  have n1 : ¬ (v, y) = f := by rintro rfl; dsimp only at hf; omega
  have n2 : ¬ (v, y) = (f.2, f.1) := by
    intro z
    have z1 : v = f.2 := congrArg Prod.fst z
    have z2 : y = f.1 := congrArg Prod.snd z
    omega
  unfold fl cnt
  simp only [sm, n1, n2, if_false]
  omega
theorem way_flow (O : G.Ok) {c s : Nat} (hs : s ≠ c) {v : Nat} (w : Way G (fun z => z = c) s v) : v ≠ c ∧ Flow G c s v := by
  induction w with
  | here => exact ⟨hs, Flow.refl _ _⟩
  | step w' a b ih => exact ⟨b, ih.2.trans (Flow.line O a ih.1 b)⟩
/-- two ways from a point with different things left of them -/
theorem W_two (O : G.Ok) {v a b : Nat} (ha : adj G v a) (hb : adj G v b) (ne : a ≠ b) (F : Flow G v a b) : ∃ m, Circ G m ∧ W G m v a ≠ W G m v b := by
  obtain ⟨m, h1, h2⟩ := F
  have M1 := flow_one O ha
  have M2 := flow_one O (adj_symm hb)
  refine ⟨fun f => m f + (fl [(v, a)] f + fl [(b, v)] f), ?_, ?_⟩
  · intro u
    have e := h1 u
    have e1 := M1 u
    have e2 := M2 u
    have : ∀ (P : Nat × Nat → Prop) [DecidablePred P], sm G.L (fun f => if P f then m f + (fl [(v, a)] f + fl [(b, v)] f) else 0) = sm G.L (fun f => if P f then m f else 0) + (sm G.L (fun f => if P f then fl [(v, a)] f else 0) + sm G.L (fun f => if P f then fl [(b, v)] f else 0)) := by
      intro P _
      rw [← sm_add, ← sm_add]
      refine sm_congr fun f _ => ?_
      split <;> omega
    rw [this, this]
    omega
  · have C : Circ G (fun f => m f + (fl [(v, a)] f + fl [(b, v)] f)) := by
      intro u
      have e := h1 u
      have e1 := M1 u
      have e2 := M2 u
      have : ∀ (P : Nat × Nat → Prop) [DecidablePred P], sm G.L (fun f => if P f then m f + (fl [(v, a)] f + fl [(b, v)] f) else 0) = sm G.L (fun f => if P f then m f else 0) + (sm G.L (fun f => if P f then fl [(v, a)] f else 0) + sm G.L (fun f => if P f then fl [(b, v)] f else 0)) := by
        intro P _
        rw [← sm_add, ← sm_add]
        refine sm_congr fun f _ => ?_
        split <;> omega
      rw [this, this]
      omega
    have fwe : ∀ y, adj G v y → fw (fun f => m f + (fl [(v, a)] f + fl [(b, v)] f)) v y = (if y = a then 1 else 0) - (if y = b then 1 else 0) := by
      intro y hy
      have q1 := fw_fl [(v, a)] v y
      have q2 := fw_fl [(b, v)] v y
      have nv := adj_ne O hy
      have z1 := h2 (v, y) (.inl rfl)
      have z2 := h2 (y, v) (.inr rfl)
      have c1 : cnt [(v, a)] (v, y) = if y = a then 1 else 0 := by
        unfold cnt
        simp only [sm, Prod.mk.injEq, true_and]
        by_cases q : y = a
        · rw [if_pos q, if_pos q.symm]; rfl
        · rw [if_neg q, if_neg (fun z => q z.symm)]; rfl
      have c2 : cnt [(v, a)] (y, v) = 0 := by
        unfold cnt
        simp only [sm, Prod.mk.injEq]
        rw [if_neg (by omega)]; rfl
      have c3 : cnt [(b, v)] (v, y) = 0 := by
        unfold cnt
        simp only [sm, Prod.mk.injEq]
        rw [if_neg (by omega)]; rfl
      have c4 : cnt [(b, v)] (y, v) = if y = b then 1 else 0 := by
        unfold cnt
        simp only [sm, Prod.mk.injEq, and_true]
        by_cases q : y = b
        · rw [if_pos q, if_pos q.symm]; rfl
        · rw [if_neg q, if_neg (fun z => q z.symm)]; rfl
      unfold fw at q1 q2 ⊢
      try dsimp only at z1 z2
      by_cases l : v < y
      · rw [if_pos l] at q1 q2 ⊢
        dsimp only
        omega
      · rw [if_neg l] at q1 q2 ⊢
        dsimp only
        omega
    have ea := W_corner O C ha
    have eb := W_corner O C hb
    have sa : at_sum G v (fun z => if clk G v z a then fw (fun f => m f + (fl [(v, a)] f + fl [(b, v)] f)) v z else 0) = if clk G v b a then -1 else 0 := by
      rw [at_sum_congr O (k := fun z => if z = b then (if clk G v z a then -1 else 0) else 0) fun z hz => ?_]
      · exact at_sum_one O hb (g := fun z => if clk G v z a then -1 else 0)
      · rw [fwe z hz]
        by_cases z1 : z = a
        · subst z1
          rw [if_neg clk_irr, if_neg ne]
        · by_cases z2 : z = b
          · subst z2
            rw [if_neg z1, if_pos rfl, if_pos rfl]
            split <;> omega
          · rw [if_neg z1, if_neg z2, if_neg z2]
            split <;> omega
    have sb : at_sum G v (fun z => if clk G v z b then fw (fun f => m f + (fl [(v, a)] f + fl [(b, v)] f)) v z else 0) = if clk G v a b then 1 else 0 := by
      rw [at_sum_congr O (k := fun z => if z = a then (if clk G v z b then 1 else 0) else 0) fun z hz => ?_]
      · exact at_sum_one O ha (g := fun z => if clk G v z b then 1 else 0)
      · rw [fwe z hz]
        by_cases z1 : z = b
        · subst z1
          rw [if_neg clk_irr, if_neg (fun w => ne w.symm)]
        · by_cases z2 : z = a
          · subst z2
            rw [if_neg z1, if_pos rfl, if_pos rfl]
            split <;> omega
          · rw [if_neg z1, if_neg z2, if_neg z2]
            split <;> omega
    rcases clk_total O ha hb ne with t | t
    · rw [if_pos t] at sb
      rw [if_neg (fun z => clk_asymm t z)] at sa
      omega
    · rw [if_pos t] at sa
      rw [if_neg (fun z => clk_asymm t z)] at sb
      omega
/-- **no outline comes to a point twice** -/
theorem once (O : G.Ok) (hn : Nxs G nx) (two : ∀ c, c < G.n → ∃ s, s ≠ c ∧ ∀ v, v < G.n → v ≠ c → Way G (fun z => z = c) s v) {s : Nat × Nat} (hs : adj G s.1 s.2) {i : Nat} (h : (it nx i s).1 = s.1) : it nx i s = s := by
  have hi := it_adj hn hs i
  rw [h] at hi
  have e : (it nx i s).2 = s.2 := by
    false_or_by_contra
    rename_i ne
    have lt := adj_lt O hs
    have lt2 := adj_lt O hi
    obtain ⟨r, hr, hw⟩ := two s.1 lt.1
    have w1 := (way_flow O hr (hw _ lt2.2 (fun z => adj_ne O hi z.symm))).2
    have w2 := (way_flow O hr (hw _ lt.2 (fun z => adj_ne O hs z.symm))).2
    obtain ⟨m, C, hne⟩ := W_two O hi hs ne (w1.symm.trans w2)
    have := W_it O hn C hs i
    rw [h] at this
    exact hne this
  exact Prod.ext h e
end Geo
end Lead
namespace Lead
theorem argmin {α : Type} (X : α → Rat) : ∀ {l : List α}, l ≠ [] → ∃ a ∈ l, ∀ b ∈ l, X a ≤ X b
  | [], h => absurd rfl h
  | [a], _ => ⟨a, by simp, by intro b hb; rw [List.mem_singleton.mp hb]; grind⟩
  | a :: b :: l, _ => by
    obtain ⟨c, hc, h⟩ := argmin X (l := b :: l) (by simp)
    by_cases q : X a ≤ X c
    · refine ⟨a, by simp, fun d hd => ?_⟩
      rcases List.mem_cons.mp hd with rfl | hd
      · grind
      · have := h d hd
        grind
    · refine ⟨c, by simp [hc], fun d hd => ?_⟩
      rcases List.mem_cons.mp hd with rfl | hd
      · grind
      · exact h d hd
theorem abel {α : Type} (X : α → Rat) (m : α → Int) : ∀ (l : List α), l.Pairwise (fun a b => X a < X b) → ∀ c : Rat, (∀ a ∈ l, c ≤ X a) → (∀ a ∈ l, 0 ≤ sm l (fun b => if X a ≤ X b then m b else 0)) →
    0 ≤ smr l (fun a => (m a : Rat) * (X a - c)) ∧ ((∃ a ∈ l, c < X a ∧ 0 < sm l (fun b => if X a ≤ X b then m b else 0)) → 0 < smr l (fun a => (m a : Rat) * (X a - c)))
  | [], _, c, _, _ => ⟨by simp [smr], fun ⟨a, ha, _⟩ => by cases ha⟩
  | a :: r, hp, c, hc, hs => by
    obtain ⟨hp1, hp2⟩ := List.pairwise_cons.mp hp
    have tail : ∀ b ∈ r, sm (a :: r) (fun d => if X b ≤ X d then m d else 0) = sm r (fun d => if X b ≤ X d then m d else 0) := by
      intro b hb
      simp only [sm]
      rw [if_neg (by have := hp1 b hb; grind)]
      omega
    have tot : sm (a :: r) (fun d => if X a ≤ X d then m d else 0) = m a + sm r m := by
      simp only [sm]
      rw [if_pos (by grind)]
      congr 1
      refine sm_congr fun d hd => ?_
      rw [if_pos (by have := hp1 d hd; grind)]
    have ih := abel X m r hp2 (X a) (fun b hb => by have := hp1 b hb; grind) (fun b hb => by rw [← tail b hb]; exact hs b (by simp [hb]))
    have h0 := hs a (by simp)
    rw [tot] at h0
    have e : smr (a :: r) (fun b => (m b : Rat) * (X b - c)) = (X a - c) * ((m a + sm r m : Int) : Rat) + smr r (fun b => (m b : Rat) * (X b - X a)) := by
      simp only [smr]
      have e1 : smr r (fun b => (m b : Rat) * (X b - c)) = smr r (fun b => (m b : Rat) * (X b - X a) + (X a - c) * (m b : Rat)) := smr_congr fun b _ => by grind
      rw [e1, smr_add, smr_mul, ← sm_cast]
      have e2 : ((m a + sm r m : Int) : Rat) = (m a : Rat) + (sm r m : Rat) := by simp
      rw [e2]
      grind
    rw [e]
    have ca := hc a (by simp)
    have q0 : (0 : Rat) ≤ ((m a + sm r m : Int) : Rat) := by exact_mod_cast h0
    have q1 : 0 ≤ (X a - c) * ((m a + sm r m : Int) : Rat) := Rat.mul_nonneg (by grind) q0
    refine ⟨by grind, ?_⟩
    rintro ⟨b, hb, hcb, hpb⟩
    rcases List.mem_cons.mp hb with rfl | hb
    · rw [tot] at hpb
      have q2 : (0 : Rat) < ((m b + sm r m : Int) : Rat) := by exact_mod_cast hpb
      have q3 : 0 < (X b - c) * ((m b + sm r m : Int) : Rat) := Rat.mul_pos (by grind) q2
      grind
    · rw [tail b hb] at hpb
      have := ih.2 ⟨b, hb, hp1 b hb, hpb⟩
      grind
namespace Geo
variable {G : Geo} {m : Nat × Nat → Int}
/-- the first of the lines of a level right of something -/
theorem first_right {t : Nat} {P : Nat × Nat → Prop} [DecidablePred P] (up : ∀ e f, e ∈ G.L → f ∈ G.L → cr e t → cr f t → P e → rt G t e f → P f) (ex : ∃ e ∈ G.L, cr e t ∧ P e) :
    ∃ e ∈ G.L, cr e t ∧ P e ∧ ∀ m : Nat × Nat → Int, sm G.L (fun f => if cr f t ∧ P f then m f else 0) = A G m t e := by
  obtain ⟨e0, h0, h1, h2⟩ := ex
  obtain ⟨e, he, hm⟩ := argmin (fun f => G.at_ f (G.lev t)) (l := G.L.filter fun f => decide (cr f t ∧ P f)) (by
    intro z
    have : e0 ∈ G.L.filter fun f => decide (cr f t ∧ P f) := List.mem_filter.mpr ⟨h0, by simp [h1, h2]⟩
    rw [z] at this
    cases this)
  obtain ⟨he1, he2⟩ := List.mem_filter.mp he
  have he2 := of_decide_eq_true he2
  refine ⟨e, he1, he2.1, he2.2, fun m => sm_congr fun f hf => ?_⟩
  have : (cr f t ∧ P f) ↔ (cr f t ∧ rt G t e f) := by
    constructor
    · intro z
      exact ⟨z.1, hm f (List.mem_filter.mpr ⟨hf, by simp [z]⟩)⟩
    · intro z
      exact ⟨z.1, up e f he1 hf he2.1 z.1 he2.2 z.2⟩
  by_cases c : cr f t ∧ P f
  · rw [if_pos c, if_pos (this.mp c)]
  · rw [if_neg c, if_neg fun z => c (this.mpr z)]
/-- all that flows up over a level -/
theorem level_zero (O : G.Ok) (C : Circ G m) : ∀ t, sm G.L (fun f => if cr f t then m f else 0) = 0
  | 0 => by
    have e : sm G.L (fun f => if cr f 0 then m f else 0) = sm G.L (fun f => if f.1 = 0 then m f else 0) := by
      refine sm_congr fun f hf => ?_
      have := O.lt f hf
      by_cases c : f.1 = 0
      · rw [if_pos c, if_pos ⟨by omega, by omega⟩]
      · rw [if_neg c, if_neg (by rintro ⟨a, b⟩; omega)]
    rw [e, C 0]
    refine sm_zero_of fun f hf => ?_
    have := O.lt f hf
    rw [if_neg (by omega)]
  | t + 1 => by
    have ih := level_zero O C t
    have c := C (t + 1)
    have e : sm G.L (fun f => if cr f (t + 1) then m f else 0) + sm G.L (fun f => if f.2 = t + 1 then m f else 0) = sm G.L (fun f => if cr f t then m f else 0) + sm G.L (fun f => if f.1 = t + 1 then m f else 0) := by
      rw [← sm_add, ← sm_add]
      refine sm_congr fun f hf => ?_
      have := O.lt f hf
      by_cases a : f.1 = t + 1 <;> by_cases b : f.2 = t + 1 <;> by_cases c : cr f t <;> by_cases d : cr f (t + 1) <;> simp only [a, b, c, d, if_true, if_false] <;> first | omega | (exfalso; unfold cr at c d; omega)
    omega
/-- a level's sum -/
theorem level_sum (O : G.Ok) (C : Circ G m) {t : Nat} (nn : ∀ e ∈ G.L, cr e t → 0 ≤ A G m t e) :
    0 ≤ smr G.L (fun f => if cr f t then (m f : Rat) * G.at_ f (G.lev t) else 0) ∧ ((∃ e ∈ G.L, cr e t ∧ 0 < A G m t e) → 0 < smr G.L (fun f => if cr f t then (m f : Rat) * G.at_ f (G.lev t) else 0)) := by
  let X : Nat × Nat → Rat := fun f => G.at_ f (G.lev t)
  let l0 := G.L.filter fun f => decide (cr f t)
  let l := l0.mergeSort (fun a b => decide (X a ≤ X b))
  have pl : l.Perm l0 := List.mergeSort_perm _ _
  have nd : l.Nodup := pl.nodup_iff.mpr (O.nd.filter _)
  have mem : ∀ f, f ∈ l ↔ f ∈ G.L ∧ cr f t := by
    intro f
    rw [pl.mem_iff]
    simp only [l0, List.mem_filter, decide_eq_true_eq]
  have srt : l.Pairwise (fun a b => X a < X b) := by
    have h1 : l.Pairwise (fun a b => decide (X a ≤ X b) = true) := List.pairwise_mergeSort (by intro a b c; simp only [decide_eq_true_eq]; intro p q; grind) (by intro a b; simp only [Bool.or_eq_true, decide_eq_true_eq]; grind) _
    have h2 := (List.nodup_iff_pairwise_ne.mp nd)
    refine List.Pairwise.imp_of_mem ?_ (h1.and h2)
    rintro a b ha hb ⟨q1, q2⟩
    have q1 := of_decide_eq_true q1
    obtain ⟨a1, a2⟩ := (mem a).mp ha
    obtain ⟨b1, b2⟩ := (mem b).mp hb
    have z1 := cr_in O a1 a2
    have z2 := cr_in O b1 b2
    have := apart O a1 b1 q2 z1.2.2.1 z2.2.2.1 z1.2.2.2 z2.2.2.2
    show G.at_ a (G.lev t) < G.at_ b (G.lev t)
    have q1' : G.at_ a (G.lev t) ≤ G.at_ b (G.lev t) := q1
    grind
  have sA : ∀ e, sm l (fun f => if X e ≤ X f then m f else 0) = A G m t e := by
    intro e
    rw [sm_perm pl]
    show sm (G.L.filter _) _ = _
    rw [sm_filter]
    unfold A
    refine sm_congr fun f hf => ?_
    show (if decide (cr f t) = true then (if rt G t e f then m f else 0) else 0) = _
    by_cases c : cr f t
    · simp only [c, decide_true, if_true, true_and]
    · simp only [c, decide_false, false_and, if_false]
      rfl
  have tot : sm l m = 0 := by
    rw [sm_perm pl]
    show sm (G.L.filter _) _ = _
    rw [sm_filter]
    refine Eq.trans (sm_congr fun f hf => ?_) (level_zero O C t)
    simp only [decide_eq_true_eq]
  have sS : smr G.L (fun f => if cr f t then (m f : Rat) * G.at_ f (G.lev t) else 0) = smr l (fun f => (m f : Rat) * X f) := by
    rw [smr_perm pl]
    show _ = smr (G.L.filter _) _
    rw [smr_filter]
    refine smr_congr fun f hf => ?_
    simp only [decide_eq_true_eq]
    rfl
  cases hl : l with
  | nil =>
    rw [sS, hl]
    refine ⟨by simp [smr], ?_⟩
    rintro ⟨e, h1, h2, _⟩
    have := (mem e).mpr ⟨h1, h2⟩
    rw [hl] at this
    cases this
  | cons a r =>
    have srt2 := srt
    rw [hl] at srt2
    have hp1 := (List.pairwise_cons.mp srt2).1
    have low : ∀ b ∈ l, X a ≤ X b := by
      intro b hb
      rw [hl] at hb
      rcases List.mem_cons.mp hb with rfl | hb
      · grind
      · have := hp1 b hb
        grind
    have ab := abel X m l srt (X a) low (fun b hb => by
      rw [sA]
      exact nn b ((mem b).mp hb).1 ((mem b).mp hb).2)
    have e : smr l (fun f => (m f : Rat) * (X f - X a)) = smr l (fun f => (m f : Rat) * X f) := by
      have e1 : smr l (fun f => (m f : Rat) * (X f - X a)) = smr l (fun f => (m f : Rat) * X f + (- X a) * (m f : Rat)) := smr_congr fun b _ => by grind
      rw [e1, smr_add, smr_mul, ← sm_cast, tot]
      grind
    rw [e] at ab
    rw [sS]
    refine ⟨ab.1, ?_⟩
    rintro ⟨e, h1, h2, h3⟩
    refine ab.2 ⟨e, (mem e).mpr ⟨h1, h2⟩, ?_, by rw [sA]; exact h3⟩
    have hm := (mem e).mpr ⟨h1, h2⟩
    have le := low e hm
    by_cases q : X a = X e
    · exfalso
      have : A G m t e = 0 := by
        rw [← sA, ← tot]
        refine sm_congr fun f hf => ?_
        rw [if_pos (by have := low f hf; grind)]
      omega
    · grind
theorem smr_tele (g : Nat → Rat) (a b : Nat) (ab : a < b) : ∀ u, smr (List.range u) (fun t => if a ≤ t ∧ t < b then g (t + 1) - g t else 0) = if u ≤ a then 0 else if u ≤ b then g u - g a else g b - g a
  | 0 => by simp [smr]
  | u + 1 => by
    have ih := smr_tele g a b ab u
    have e : smr (List.range (u + 1)) (fun t => if a ≤ t ∧ t < b then g (t + 1) - g t else 0) = smr (List.range u) (fun t => if a ≤ t ∧ t < b then g (t + 1) - g t else 0) + (if a ≤ u ∧ u < b then g (u + 1) - g u else 0) := by
      rw [List.range_succ]
      have : ∀ (l : List Nat) (k : Nat → Rat) (z : Nat), smr (l ++ [z]) k = smr l k + k z := by
        intro l k z
        induction l with
        | nil => simp only [List.nil_append, smr]; grind
        | cons a l ih => simp only [List.cons_append, smr]; rw [ih]; grind
      rw [this]
    rw [e, ih]
    grind
theorem trapez (O : G.Ok) {f : Nat × Nat} (hf : f ∈ G.L) : smr (List.range G.n) (fun t => if cr f t then (2 * (G.h (t + 1) - G.h t)) * G.at_ f (G.lev t) else 0) = (G.x f.1 + G.x f.2) * (G.h f.2 - G.h f.1) := by
  have j := O.lt f hf
  let o : Rat := G.x f.1 - G.sl f.1 f.2 * G.h f.1
  let s : Rat := G.sl f.1 f.2
  let g : Nat → Rat := fun t => 2 * o * G.h t + s * G.h t * G.h t
  have e1 := smr_tele g f.1 f.2 j.1 G.n
  rw [if_neg (by omega), if_neg (by omega)] at e1
  have hi := at_high (O.hline hf)
  have e2 : g f.2 - g f.1 = (G.x f.1 + G.x f.2) * (G.h f.2 - G.h f.1) := by
    rw [← hi]
    simp only [g, o, s, at_]
    grind
  rw [← e2, ← e1]
  refine smr_congr fun t _ => ?_
  by_cases c : f.1 ≤ t ∧ t < f.2
  · have cc : cr f t := c
    rw [if_pos cc, if_pos c]
    simp only [g, o, s, at_, lev]
    grind
  · have cc : ¬ cr f t := c
    rw [if_neg cc, if_neg c]
/-- what flows on at each point is worth nothing that hangs on the ends alone -/
theorem circ_pot (O : G.Ok) (C : Circ G m) (g : Nat → Rat) : smr G.L (fun f => (m f : Rat) * (g f.1 - g f.2)) = 0 := by
  have e1 : ∀ f ∈ G.L, (m f : Rat) * (g f.1 - g f.2) = smr (List.range G.n) (fun v => g v * (((if f.1 = v then m f else 0) - (if f.2 = v then m f else 0) : Int) : Rat)) := by
    intro f hf
    have j := O.lt f hf
    have one : ∀ (u : Nat), ∀ (w : Nat), w < u → smr (List.range u) (fun v => g v * ((if w = v then m f else 0 : Int) : Rat)) = g w * (m f : Rat) := by
      intro u
      induction u with
      | zero => intro w hw; omega
      | succ u ih =>
        intro w hw
        rw [List.range_succ]
        have app : ∀ (l : List Nat) (k : Nat → Rat) (z : Nat), smr (l ++ [z]) k = smr l k + k z := by
          intro l k z
          induction l with
          | nil => simp only [List.nil_append, smr]; grind
          | cons a l ih => simp only [List.cons_append, smr]; rw [ih]; grind
        rw [app]
        by_cases c : w = u
        · subst c
          have z : smr (List.range w) (fun v => g v * ((if w = v then m f else 0 : Int) : Rat)) = 0 := by
            rw [← smr_zero (l := List.range w)]
            refine smr_congr fun v hv => ?_
            have := List.mem_range.mp hv
            rw [if_neg (by omega)]
            simp
          rw [z, if_pos rfl]
          grind
        · rw [ih w (by omega), if_neg c]
          have : ((0 : Int) : Rat) = 0 := rfl
          rw [this]
          grind
    have a1 := one G.n f.1 (by omega)
    have a2 := one G.n f.2 (by omega)
    have : smr (List.range G.n) (fun v => g v * (((if f.1 = v then m f else 0) - (if f.2 = v then m f else 0) : Int) : Rat)) = smr (List.range G.n) (fun v => g v * ((if f.1 = v then m f else 0 : Int) : Rat)) + (-1) * smr (List.range G.n) (fun v => g v * ((if f.2 = v then m f else 0 : Int) : Rat)) := by
      rw [← smr_mul, ← smr_add]
      refine smr_congr fun v _ => ?_
      rw [Rat.intCast_sub]
      grind
    rw [this, a1, a2]
    grind
  rw [smr_congr e1, smr_comm, ← smr_zero (l := List.range G.n)]
  refine smr_congr fun v _ => ?_
  rw [smr_mul, ← sm_cast, sm_sub, C v]
  simp
/-- **the area is above 0** -/
theorem area_pos (O : G.Ok) (C : Circ G m) (nn : ∀ t, ∀ e ∈ G.L, cr e t → 0 ≤ A G m t e) (ex : ∃ t, ∃ e ∈ G.L, cr e t ∧ 0 < A G m t e) :
    0 < smr G.L (fun f => (m f : Rat) * (G.x f.1 * G.h f.2 - G.x f.2 * G.h f.1)) := by
  have e1 : smr G.L (fun f => (m f : Rat) * (G.x f.1 * G.h f.2 - G.x f.2 * G.h f.1)) = smr G.L (fun f => (m f : Rat) * ((G.x f.1 + G.x f.2) * (G.h f.2 - G.h f.1))) := by
    have z := circ_pot O C (fun v => G.x v * G.h v)
    have : smr G.L (fun f => (m f : Rat) * (G.x f.1 * G.h f.2 - G.x f.2 * G.h f.1)) = smr G.L (fun f => (m f : Rat) * ((G.x f.1 + G.x f.2) * (G.h f.2 - G.h f.1)) + (m f : Rat) * (G.x f.1 * G.h f.1 - G.x f.2 * G.h f.2)) := smr_congr fun f _ => by grind
    rw [this, smr_add, z]
    grind
  have e2 : smr G.L (fun f => (m f : Rat) * ((G.x f.1 + G.x f.2) * (G.h f.2 - G.h f.1))) = smr (List.range G.n) (fun t => (2 * (G.h (t + 1) - G.h t)) * smr G.L (fun f => if cr f t then (m f : Rat) * G.at_ f (G.lev t) else 0)) := by
    rw [smr_congr (h := fun f => smr (List.range G.n) (fun t => (2 * (G.h (t + 1) - G.h t)) * (if cr f t then (m f : Rat) * G.at_ f (G.lev t) else 0))) fun f hf => ?_]
    · rw [smr_comm]
      refine smr_congr fun t _ => ?_
      rw [smr_mul]
    · rw [← trapez O hf, ← smr_mul]
      refine smr_congr fun t _ => ?_
      by_cases c : cr f t
      · rw [if_pos c, if_pos c]
        grind
      · rw [if_neg c, if_neg c]
        grind
  rw [e1, e2]
  obtain ⟨t, e, he, ce, pe⟩ := ex
  have rise : ∀ u, u + 1 < G.n → 0 < G.h (u + 1) - G.h u := fun u hu => by
    have := O.mono u (u + 1) (by omega) hu
    grind
  have noline : ∀ u, ¬ u + 1 < G.n → smr G.L (fun f => if cr f u then (m f : Rat) * G.at_ f (G.lev u) else 0) = 0 := fun u hu => by
    refine Eq.trans (smr_congr fun f hf => ?_) (smr_zero (l := G.L))
    have := O.lt f hf
    rw [if_neg (by rintro ⟨a, b⟩; omega)]
  have j := O.lt e he
  have ht : t + 1 < G.n := by have := ce.2; omega
  refine smr_pos (a := t) (fun u _ => ?_) (List.mem_range.mpr (by omega)) ?_
  · by_cases c : u + 1 < G.n
    · exact Rat.mul_nonneg (by have := rise u c; grind) (level_sum O C (nn u)).1
    · rw [noline u c]
      grind
  · exact Rat.mul_pos (by have := rise t ht; grind) ((level_sum O C (nn t)).2 ⟨e, he, ce, pe⟩)
end Geo
end Lead
namespace Lead
open GlaBase GlaPlan
/-! the specification's drawing as a drawing with heights -/
def geoOf (S : Plan) : Geo where
  n := S.pts.length
  x := fun i => (((S.pt i).x : Int) : Rat)
  h := fun i => ((((S.w + 1) * (S.pt i).y + (S.pt i).x : Nat) : Int) : Rat)
  L := S.lines
theorem firstAt_none {α : Type} {p : Nat → α → Bool} {l : List α} : firstAt p l = none ↔ ∀ i x, l[i]? = some x → p i x = false := by
  unfold firstAt
  rw [Option.map_eq_none_iff, List.find?_eq_none]
  constructor
  · intro h i x hx
    have := h (x, i) (List.mem_zipIdx_iff_getElem?.mpr (by simpa using hx))
    simpa using this
  · rintro h ⟨x, i⟩ hx
    have := List.mem_zipIdx_iff_getElem?.mp hx
    simpa using h i x this
/-- what the rules 4 to 10 say -/
structure Good (S : Plan) : Prop where
  r4 : firstBad (fun (p : Pt) => decide (p.x ≤ S.w) && decide (p.y ≤ S.h)) Pt.below S.pts = none
  r5 : firstBad (fun (l : Nat × Nat) => decide (l.1 < l.2) && decide (l.2 < S.pts.length)) lineBelow S.lines = none
  r6 : frameOk S = true
  r7 : firstAt (touches S) S.lines = none
  r8 : ((List.range S.pts.length).find? fun (i : Nat) => decide ((S.near i).length < 2)) = none
  r9 : ((List.range S.pts.length).find? fun (i : Nat) => !((seenFrom S.nears S.pts.length 0 (noneSeen S.pts.length)).getD i false)) = none
  r10 : ((List.range S.pts.length).find? (cuts S.nears S.pts.length)) = none
theorem firstBad_none {α : Type} {ok : α → Bool} {before : α → α → Bool} {l : List α} : firstBad ok before l = none ↔ (∀ (i : Nat) x, l[i]? = some x → ok x = true) ∧ (∀ (i : Nat) x y, l[i]? = some x → l[i + 1]? = some y → before x y = true) := by
  unfold firstBad
  rw [firstAt_none]
  constructor
  · intro h
    refine ⟨fun i x hx => ?_, fun i x y hx hy => ?_⟩
    · have := h i x hx
      simp only [Bool.or_eq_false_iff, Bool.not_eq_false'] at this
      exact this.1
    · have := h (i + 1) y hy
      simp only [Bool.or_eq_false_iff, Bool.not_eq_false', Nat.add_sub_cancel, hx] at this
      have h2 := this.2
      simpa using h2
  · rintro ⟨h1, h2⟩ i x hx
    simp only [Bool.or_eq_false_iff, Bool.not_eq_false']
    refine ⟨h1 i x hx, ?_⟩
    cases i with
    | zero => rfl
    | succ i =>
      simp only [Nat.add_sub_cancel]
      cases e : l[i]? with
      | none => simp
      | some y => simp [h2 i y x e hx]
theorem steps_pairwise {α : Type} {R : α → α → Prop} (tr : ∀ a b c, R a b → R b c → R a c) {l : List α} (h : ∀ i x y, l[i]? = some x → l[i + 1]? = some y → R x y) : ∀ (k i : Nat) (x y : α), l[i]? = some x → l[i + (k + 1)]? = some y → R x y
  | 0, i, x, y, hx, hy => h i x y hx hy
  | k + 1, i, x, y, hx, hy => by
    have lt : i + (k + 1) < l.length := by
      have := (List.getElem?_eq_some_iff.mp hy).1
      omega
    have e : l[i + (k + 1)]? = some l[i + (k + 1)] := List.getElem?_eq_getElem lt
    exact tr _ _ _ (steps_pairwise tr h k i x _ hx e) (h _ _ _ e hy)
theorem steps_lt {α : Type} {R : α → α → Prop} (tr : ∀ a b c, R a b → R b c → R a c) {l : List α} (h : ∀ i x y, l[i]? = some x → l[i + 1]? = some y → R x y) {i j : Nat} (ij : i < j) {x y : α} (hx : l[i]? = some x) (hy : l[j]? = some y) : R x y :=
  steps_pairwise tr h (j - i - 1) i x y hx (by rw [show i + (j - i - 1 + 1) = j by omega]; exact hy)
theorem lineBelow_iff {a b : Nat × Nat} : lineBelow a b = true ↔ a.1 < b.1 ∨ (a.1 = b.1 ∧ a.2 < b.2) := by
  unfold lineBelow
  simp
theorem ptBelow_iff {a b : Pt} : a.below b = true ↔ a.y < b.y ∨ (a.y = b.y ∧ a.x < b.x) := by
  unfold Pt.below
  simp
theorem pt_get {S : Plan} {i : Nat} (h : i < S.pts.length) : S.pts[i]? = some (S.pt i) := by
  unfold Plan.pt
  rw [List.getElem?_eq_getElem h, List.getD_eq_getElem?_getD, List.getElem?_eq_getElem h]
  rfl
namespace Good
variable {S : Plan}
theorem box (O : Good S) {i : Nat} (h : i < S.pts.length) : (S.pt i).x ≤ S.w ∧ (S.pt i).y ≤ S.h := by
  have := (firstBad_none.mp O.r4).1 i _ (pt_get h)
  simpa using this
theorem pbelow (O : Good S) {i j : Nat} (ij : i < j) (h : j < S.pts.length) : (S.pt i).y < (S.pt j).y ∨ ((S.pt i).y = (S.pt j).y ∧ (S.pt i).x < (S.pt j).x) := by
  refine steps_lt (R := fun (a b : Pt) => a.y < b.y ∨ (a.y = b.y ∧ a.x < b.x)) (by intro a b c p q; omega) ?_ ij (pt_get (by omega)) (pt_get h)
  intro i x y hx hy
  exact ptBelow_iff.mp ((firstBad_none.mp O.r4).2 i x y hx hy)
theorem line_lt (O : Good S) {e : Nat × Nat} (he : e ∈ S.lines) : e.1 < e.2 ∧ e.2 < S.pts.length := by
  obtain ⟨i, hi⟩ := List.getElem?_of_mem he
  have := (firstBad_none.mp O.r5).1 i _ hi
  simpa using this
theorem lbelow (O : Good S) {i j : Nat} (ij : i < j) {e f : Nat × Nat} (he : S.lines[i]? = some e) (hf : S.lines[j]? = some f) : e.1 < f.1 ∨ (e.1 = f.1 ∧ e.2 < f.2) := by
  refine steps_lt (R := fun (a b : Nat × Nat) => a.1 < b.1 ∨ (a.1 = b.1 ∧ a.2 < b.2)) (by intro a b c p q; omega) ?_ ij he hf
  intro i x y hx hy
  exact lineBelow_iff.mp ((firstBad_none.mp O.r5).2 i x y hx hy)
theorem lines_nd (O : Good S) : S.lines.Nodup := by
  rw [List.nodup_iff_pairwise_ne, List.pairwise_iff_getElem]
  intro i j hi hj ij z
  have := O.lbelow ij (List.getElem?_eq_getElem hi) (List.getElem?_eq_getElem hj)
  rw [z] at this
  omega
end Good
theorem tn_turn (S : Plan) (p q r : Nat) : (geoOf S).tn p q r = (((S.w + 1 : Nat) : Int) : Rat) * ((turn (S.pt p) (S.pt q) (S.pt r) : Int) : Rat) := by
  unfold Geo.tn geoOf turn dx dy
  simp only [← Rat.intCast_sub, ← Rat.intCast_mul]
  congr 1
  push_cast
  grind
theorem wpos (S : Plan) : (0 : Rat) < (((S.w + 1 : Nat) : Int) : Rat) := by
  have : (0 : Int) < ((S.w + 1 : Nat) : Int) := by omega
  exact_mod_cast this
theorem tn_pos_iff (S : Plan) (p q r : Nat) : 0 < (geoOf S).tn p q r ↔ 0 < turn (S.pt p) (S.pt q) (S.pt r) := by
  rw [tn_turn]
  have w := wpos S
  constructor
  · intro z
    false_or_by_contra
    have q1 : turn (S.pt p) (S.pt q) (S.pt r) ≤ 0 := by omega
    have q2 : ((turn (S.pt p) (S.pt q) (S.pt r) : Int) : Rat) ≤ 0 := by exact_mod_cast q1
    have := Rat.mul_nonneg (a := (((S.w + 1 : Nat) : Int) : Rat)) (b := - ((turn (S.pt p) (S.pt q) (S.pt r) : Int) : Rat)) (by grind) (by grind)
    grind
  · intro z
    have q2 : (0 : Rat) < ((turn (S.pt p) (S.pt q) (S.pt r) : Int) : Rat) := by exact_mod_cast z
    exact Rat.mul_pos w q2
theorem tn_neg_iff (S : Plan) (p q r : Nat) : (geoOf S).tn p q r < 0 ↔ turn (S.pt p) (S.pt q) (S.pt r) < 0 := by
  rw [tn_turn]
  have w := wpos S
  constructor
  · intro z
    false_or_by_contra
    have q1 : 0 ≤ turn (S.pt p) (S.pt q) (S.pt r) := by omega
    have q2 : (0 : Rat) ≤ ((turn (S.pt p) (S.pt q) (S.pt r) : Int) : Rat) := by exact_mod_cast q1
    have := Rat.mul_nonneg (a := (((S.w + 1 : Nat) : Int) : Rat)) (b := ((turn (S.pt p) (S.pt q) (S.pt r) : Int) : Rat)) (by grind) (by grind)
    grind
  · intro z
    have q2 : ((turn (S.pt p) (S.pt q) (S.pt r) : Int) : Rat) < 0 := by exact_mod_cast z
    have := Rat.mul_pos (a := (((S.w + 1 : Nat) : Int) : Rat)) (b := - ((turn (S.pt p) (S.pt q) (S.pt r) : Int) : Rat)) w (by grind)
    grind
theorem between_iff {a b c : Nat} : between a b c = true ↔ (a ≤ c ∧ c ≤ b) ∨ (b ≤ c ∧ c ≤ a) := by
  unfold between
  simp only [Bool.and_eq_true, decide_eq_true_eq]
  omega
/-- in a row and between in y: on the line -/
theorem on_of_row {p q r : Pt} (t : turn p q r = 0) (h : (p.y < q.y ∧ p.y ≤ r.y ∧ r.y ≤ q.y) ∨ (p.y = q.y ∧ r.y = p.y ∧ p.x ≤ r.x ∧ r.x ≤ q.x)) : isOn p q r = true := by
  unfold isOn
  simp only [Bool.and_eq_true, beq_iff_eq, between_iff]
  rcases h with ⟨h1, h2, h3⟩ | ⟨h1, h2, h3, h4⟩
  · refine ⟨t, ?_, .inl ⟨h2, h3⟩⟩
    unfold turn dx dy at t
    -- (qx - px) (ry - qy) = (qy - py) (rx - qx)
    have e : ((q.x : Int) - p.x) * ((r.y : Int) - q.y) = ((q.y : Int) - p.y) * ((r.x : Int) - q.x) := by omega
    have e2 : ((q.x : Int) - p.x) * ((r.y : Int) - p.y) = ((q.y : Int) - p.y) * ((r.x : Int) - p.x) := by grind
    rcases Int.le_total (p.x : Int) q.x with c | c
    · left
      constructor
      · false_or_by_contra
        have a1 : 0 ≤ ((q.x : Int) - p.x) * ((r.y : Int) - p.y) := Int.mul_nonneg (by omega) (by omega)
        have a2 : 0 < ((q.y : Int) - p.y) * ((p.x : Int) - r.x) := Int.mul_pos (by omega) (by omega)
        grind
      · false_or_by_contra
        have a1 : 0 ≤ ((q.x : Int) - p.x) * ((q.y : Int) - r.y) := Int.mul_nonneg (by omega) (by omega)
        have a2 : 0 < ((q.y : Int) - p.y) * ((r.x : Int) - q.x) := Int.mul_pos (by omega) (by omega)
        grind
    · right
      constructor
      · false_or_by_contra
        have a1 : 0 ≤ ((p.x : Int) - q.x) * ((q.y : Int) - r.y) := Int.mul_nonneg (by omega) (by omega)
        have a2 : 0 < ((q.y : Int) - p.y) * ((q.x : Int) - r.x) := Int.mul_pos (by omega) (by omega)
        grind
      · false_or_by_contra
        have a1 : 0 ≤ ((p.x : Int) - q.x) * ((r.y : Int) - p.y) := Int.mul_nonneg (by omega) (by omega)
        have a2 : 0 < ((q.y : Int) - p.y) * ((r.x : Int) - p.x) := Int.mul_pos (by omega) (by omega)
        grind
  · exact ⟨t, .inl ⟨h3, h4⟩, .inl ⟨by omega, by omega⟩⟩
namespace Good
variable {S : Plan}
theorem off_line (O : Good S) {e : Nat × Nat} (he : e ∈ S.lines) {k : Nat} (hk : k < S.pts.length) (n1 : k ≠ e.1) (n2 : k ≠ e.2) : isOn (S.pt e.1) (S.pt e.2) (S.pt k) = false := by
  obtain ⟨i, hi⟩ := List.getElem?_of_mem he
  have := firstAt_none.mp O.r7 i e hi
  unfold touches at this
  simp only [Bool.or_eq_false_iff, List.any_eq_false] at this
  have q := this.1 k (List.mem_range.mpr hk)
  simp only [Bool.and_eq_true, bne_iff_ne, not_and, Bool.not_eq_true] at q
  exact q n1 n2
theorem no_cross (O : Good S) {e f : Nat × Nat} (he : e ∈ S.lines) (hf : f ∈ S.lines) : ¬ (turn (S.pt e.1) (S.pt e.2) (S.pt f.1) * turn (S.pt e.1) (S.pt e.2) (S.pt f.2) < 0 ∧ turn (S.pt f.1) (S.pt f.2) (S.pt e.1) * turn (S.pt f.1) (S.pt f.2) (S.pt e.2) < 0) := by
  obtain ⟨i, hi⟩ := List.getElem?_of_mem he
  obtain ⟨j, hj⟩ := List.getElem?_of_mem hf
  have key : ∀ (i j : Nat) (e f : Nat × Nat), S.lines[i]? = some e → S.lines[j]? = some f → j < i → crosses (S.pt e.1) (S.pt e.2) (S.pt f.1) (S.pt f.2) = false := by
    intro i j e f hi hj lt
    have := firstAt_none.mp O.r7 i e hi
    unfold touches at this
    simp only [Bool.or_eq_false_iff, List.any_eq_false] at this
    have q := this.2 f (List.mem_of_getElem? (i := j) (by rw [List.getElem?_take, if_pos lt]; exact hj))
    simpa using q
  rcases Nat.lt_trichotomy i j with c | c | c
  · have := key j i f e hj hi c
    unfold crosses at this
    simp only [Bool.and_eq_false_iff, decide_eq_false_iff_not] at this
    omega
  · subst c
    have : e = f := Option.some.inj (hi.symm.trans hj)
    subst this
    have z : turn (S.pt e.1) (S.pt e.2) (S.pt e.2) = 0 := by
      unfold turn dx dy
      grind
    rw [z]
    simp
  · have := key i j e f hi hj c
    unfold crosses at this
    simp only [Bool.and_eq_false_iff, decide_eq_false_iff_not] at this
    omega
theorem neg_mul {a b : Int} (h : (0 < a ∧ b < 0) ∨ (a < 0 ∧ 0 < b)) : a * b < 0 := by
  rcases h with ⟨h1, h2⟩ | ⟨h1, h2⟩
  · have : 0 < a * (-b) := Int.mul_pos h1 (by omega)
    grind
  · have : 0 < (-a) * b := Int.mul_pos (by omega) h2
    grind
theorem ok (O : Good S) : (geoOf S).Ok where
  mono := by
    intro i j ij hj
    have hj : j < S.pts.length := hj
    have b := O.pbelow ij hj
    have x := (O.box (i := i) (by omega)).1
    have : (S.w + 1) * (S.pt i).y + (S.pt i).x < (S.w + 1) * (S.pt j).y + (S.pt j).x := by
      rcases b with b | b
      · have : (S.w + 1) * ((S.pt i).y + 1) ≤ (S.w + 1) * (S.pt j).y := Nat.mul_le_mul_left _ b
        rw [Nat.mul_add] at this
        omega
      · rw [b.1]
        omega
    show ((((S.w + 1) * (S.pt i).y + (S.pt i).x : Nat) : Int) : Rat) < ((((S.w + 1) * (S.pt j).y + (S.pt j).x : Nat) : Int) : Rat)
    exact_mod_cast this
  lt := fun e he => O.line_lt he
  nd := O.lines_nd
  free := by
    intro e he v h1 h2 z
    have l := O.line_lt he
    have h := O.off_line he (k := v) (by omega) (by omega) (by omega)
    rw [tn_turn] at z
    have t : turn (S.pt e.1) (S.pt e.2) (S.pt v) = 0 := by
      have w := wpos S
      have : ((turn (S.pt e.1) (S.pt e.2) (S.pt v) : Int) : Rat) = 0 := by
        rcases Rat.mul_eq_zero.mp z with q | q
        · grind
        · exact q
      exact_mod_cast this
    have b1 := O.pbelow h1 (by omega)
    have b2 := O.pbelow h2 l.2
    have := on_of_row t (by omega)
    rw [h] at this
    cases this
  cros := by
    intro e he f hf
    rw [tn_pos_iff, tn_pos_iff, tn_pos_iff, tn_pos_iff, tn_neg_iff, tn_neg_iff, tn_neg_iff, tn_neg_iff]
    rintro ⟨a, b⟩
    exact O.no_cross he hf ⟨neg_mul b, neg_mul a⟩
end Good
theorem near_mem {S : Plan} {v y : Nat} : y ∈ S.near v ↔ Geo.adj (geoOf S) v y := by
  unfold Plan.near Geo.adj
  rw [List.mem_filterMap]
  constructor
  · rintro ⟨l, hl, h⟩
    by_cases c : l.1 = v
    · rw [if_pos c] at h
      left
      cases h
      rw [← c]
      exact hl
    · rw [if_neg c] at h
      by_cases d : l.2 = v
      · rw [if_pos d] at h
        right
        cases h
        rw [← d]
        exact hl
      · rw [if_neg d] at h
        cases h
  · rintro (h | h)
    · exact ⟨_, h, by simp⟩
    · refine ⟨_, h, ?_⟩
      dsimp only
      by_cases c : y = v
      · subst c
        simp
      · rw [if_neg c, if_pos rfl]
end Lead
namespace Lead
open GlaBase GlaPlan
theorem foldMin {α : Type} {lt : α → α → Bool} : ∀ (r : List α) (k : α) (done : List α), (∀ a ∈ done ++ r, ∀ b ∈ done ++ r, ∀ c ∈ done ++ r, lt a b = true → lt b c = true → lt a c = true) → (∀ a ∈ done ++ r, ∀ b ∈ done ++ r, lt a b = true → lt b a = false) → k ∈ done → (∀ x ∈ done, lt x k = false) →
    (r.foldl (fun a b => if lt b a = true then b else a) k ∈ done ++ r ∧ ∀ x ∈ done ++ r, lt x (r.foldl (fun a b => if lt b a = true then b else a) k) = false)
  | [], k, done, tr, asy, hk, hm => by simpa using ⟨hk, hm⟩
  | b :: r, k, done, tr, asy, hk, hm => by
    have e : done ++ b :: r = (done ++ [b]) ++ r := by simp
    rw [e] at tr asy ⊢
    have inb : b ∈ (done ++ [b]) ++ r := by simp
    have irr : lt b b = false := by
      cases q : lt b b with
      | false => rfl
      | true => exact (asy b inb b inb q).symm.trans q |>.symm ▸ rfl
    rw [List.foldl_cons]
    by_cases c : lt b k = true
    · rw [if_pos c]
      refine foldMin r b (done ++ [b]) tr asy (by simp) fun x hx => ?_
      rcases List.mem_append.mp hx with h | h
      · cases q : lt x b with
        | false => rfl
        | true =>
          have := tr x (by simp [h]) b inb k (by simp [hk]) q c
          rw [hm x h] at this
          cases this
      · rw [List.mem_singleton.mp h]
        exact irr
    · rw [if_neg c]
      refine foldMin r k (done ++ [b]) tr asy (by simp [hk]) fun x hx => ?_
      rcases List.mem_append.mp hx with h | h
      · exact hm x h
      · rw [List.mem_singleton.mp h]
        simpa using c
section
variable {S : Plan}
/-- the way between two points, across and up -/
def crs (a b : Int × Int) : Int := a.1 * b.2 - a.2 * b.1
theorem crs_sl (S : Plan) {v a b : Nat} (ha : (geoOf S).h a - (geoOf S).h v ≠ 0) (hb : (geoOf S).h b - (geoOf S).h v ≠ 0) : (((S.w + 1 : Nat) : Int) : Rat) * ((crs (dir S v a) (dir S v b) : Int) : Rat) =
    (((geoOf S).h a - (geoOf S).h v) * ((geoOf S).h b - (geoOf S).h v)) * ((geoOf S).sl v a - (geoOf S).sl v b) := by
  have e : (((geoOf S).h a - (geoOf S).h v) * ((geoOf S).h b - (geoOf S).h v)) * ((geoOf S).sl v a - (geoOf S).sl v b) = ((geoOf S).x a - (geoOf S).x v) * ((geoOf S).h b - (geoOf S).h v) - ((geoOf S).x b - (geoOf S).x v) * ((geoOf S).h a - (geoOf S).h v) := by
    unfold Geo.sl
    grind
  rw [e]
  unfold crs dir dx dy geoOf
  dsimp only
  simp only [← Rat.intCast_sub, ← Rat.intCast_mul]
  congr 1
  push_cast
  grind
theorem mul_sign {k p : Rat} (hk : 0 < k) : (0 < k * p ↔ 0 < p) ∧ (k * p < 0 ↔ p < 0) := by
  have q1 : 0 < p → 0 < k * p := Rat.mul_pos hk
  have q2 : 0 < -p → 0 < k * (-p) := Rat.mul_pos hk
  have q3 : p = 0 → k * p = 0 := by rintro rfl; grind
  grind
theorem cast_sign {z : Int} : ((0 : Rat) < (z : Rat) ↔ 0 < z) ∧ ((z : Rat) < 0 ↔ z < 0) := by
  constructor
  · exact_mod_cast Iff.rfl
  · exact_mod_cast Iff.rfl
theorem Good.crs_iff (O : Good S) {v a b : Nat} (ha : Geo.adj (geoOf S) v a) (hb : Geo.adj (geoOf S) v b) :
    (crs (dir S v a) (dir S v b) < 0 ↔ ((v < a ↔ v < b) ∧ (geoOf S).sl v a < (geoOf S).sl v b) ∨ (¬ (v < a ↔ v < b) ∧ (geoOf S).sl v b < (geoOf S).sl v a)) ∧
    (0 < crs (dir S v a) (dir S v b) ↔ ((v < a ↔ v < b) ∧ (geoOf S).sl v b < (geoOf S).sl v a) ∨ (¬ (v < a ↔ v < b) ∧ (geoOf S).sl v a < (geoOf S).sl v b)) := by
  have na := Geo.adj_ne O.ok ha
  have nb := Geo.adj_ne O.ok hb
  have la := Geo.adj_lt O.ok ha
  have lb := Geo.adj_lt O.ok hb
  have h1 := O.ok.hlt la.1 la.2
  have h2 := O.ok.hlt la.2 la.1
  have h3 := O.ok.hlt lb.1 lb.2
  have h4 := O.ok.hlt lb.2 lb.1
  have e := crs_sl S (v := v) (a := a) (b := b) (by grind) (by grind)
  have w := mul_sign (p := ((crs (dir S v a) (dir S v b) : Int) : Rat)) (wpos S)
  have z := cast_sign (z := crs (dir S v a) (dir S v b))
  rw [e] at w
  rw [← z.1, ← z.2, ← w.1, ← w.2]
  by_cases c : v < a <;> by_cases d : v < b
  · have k := Rat.mul_pos (a := (geoOf S).h a - (geoOf S).h v) (b := (geoOf S).h b - (geoOf S).h v) (by grind) (by grind)
    have s := mul_sign (p := (geoOf S).sl v a - (geoOf S).sl v b) k
    rw [s.1, s.2]
    simp only [c, d, true_and, not_true, false_and, or_false]
    grind
  · have k := Rat.mul_pos (a := (geoOf S).h a - (geoOf S).h v) (b := - ((geoOf S).h b - (geoOf S).h v)) (by grind) (by grind)
    have s := mul_sign (p := (geoOf S).sl v b - (geoOf S).sl v a) k
    have e2 : (((geoOf S).h a - (geoOf S).h v) * ((geoOf S).h b - (geoOf S).h v)) * ((geoOf S).sl v a - (geoOf S).sl v b) = ((geoOf S).h a - (geoOf S).h v) * (- ((geoOf S).h b - (geoOf S).h v)) * ((geoOf S).sl v b - (geoOf S).sl v a) := by grind
    rw [e2, s.1, s.2]
    simp only [c, d, iff_false, not_true, false_and, false_or, not_false_eq_true, true_and]
    grind
  · have k := Rat.mul_pos (a := - ((geoOf S).h a - (geoOf S).h v)) (b := (geoOf S).h b - (geoOf S).h v) (by grind) (by grind)
    have s := mul_sign (p := (geoOf S).sl v b - (geoOf S).sl v a) k
    have e2 : (((geoOf S).h a - (geoOf S).h v) * ((geoOf S).h b - (geoOf S).h v)) * ((geoOf S).sl v a - (geoOf S).sl v b) = (- ((geoOf S).h a - (geoOf S).h v)) * ((geoOf S).h b - (geoOf S).h v) * ((geoOf S).sl v b - (geoOf S).sl v a) := by grind
    rw [e2, s.1, s.2]
    simp only [c, d, false_iff, not_true, false_and, false_or, not_false_eq_true, true_and]
    grind
  · have k := Rat.mul_pos (a := - ((geoOf S).h a - (geoOf S).h v)) (b := - ((geoOf S).h b - (geoOf S).h v)) (by grind) (by grind)
    have s := mul_sign (p := (geoOf S).sl v a - (geoOf S).sl v b) k
    have e2 : (((geoOf S).h a - (geoOf S).h v) * ((geoOf S).h b - (geoOf S).h v)) * ((geoOf S).sl v a - (geoOf S).sl v b) = (- ((geoOf S).h a - (geoOf S).h v)) * (- ((geoOf S).h b - (geoOf S).h v)) * ((geoOf S).sl v a - (geoOf S).sl v b) := by grind
    rw [e2, s.1, s.2]
    simp only [c, d, true_and, not_true, false_and, or_false]
    grind
/-- straight back: opposite sides -/
theorem Good.back (O : Good S) {v u a : Nat} (hu : Geo.adj (geoOf S) v u) (ha : Geo.adj (geoOf S) v a) (ne : a ≠ u) (c : crs (dir S v u) (dir S v a) = 0) : (dir S v u).1 * (dir S v a).1 + (dir S v u).2 * (dir S v a).2 < 0 ∧ ¬ (v < u ↔ v < a) := by
  have k := O.crs_iff hu ha
  have op : ¬ (v < u ↔ v < a) := by
    intro s
    have nu := Geo.adj_ne O.ok hu
    have na := Geo.adj_ne O.ok ha
    have := Geo.sl_ne O.ok hu ha (fun z => ne z.symm) (by omega)
    have z : ¬ crs (dir S v u) (dir S v a) < 0 := by omega
    have z2 : ¬ 0 < crs (dir S v u) (dir S v a) := by omega
    rw [k.1] at z
    rw [k.2] at z2
    grind
  refine ⟨?_, op⟩
  have lu := Geo.adj_lt O.ok hu
  have la := Geo.adj_lt O.ok ha
  have lu1 : v < S.pts.length := lu.1
  have lu2 : u < S.pts.length := lu.2
  have la2 : a < S.pts.length := la.2
  have nu := Geo.adj_ne O.ok hu
  have na := Geo.adj_ne O.ok ha
  unfold crs at c
  have key : ∀ (r d : Int × Int), r.1 * d.2 - r.2 * d.1 = 0 → (0 < r.2 ∨ (r.2 = 0 ∧ 0 < r.1)) → (d.2 < 0 ∨ (d.2 = 0 ∧ d.1 < 0)) → r.1 * d.1 + r.2 * d.2 < 0 := by
    rintro ⟨r1, r2⟩ ⟨d1, d2⟩ h hr hd
    dsimp only at *
    rcases hr with hr | ⟨hr, hr2⟩
    · rcases hd with hd | ⟨hd, hd2⟩
      · have a1 : 0 < r2 * (-d2) := Int.mul_pos hr (by omega)
        have a2 : r2 * (r1 * d1) = (r1 * r1) * d2 := by grind
        have a3 : 0 ≤ (r1 * r1) * (-d2) := Int.mul_nonneg (by rcases Int.le_total 0 r1 with q | q; exact Int.mul_nonneg q q; have := Int.mul_nonneg (a := -r1) (b := -r1) (by omega) (by omega); grind) (by omega)
        false_or_by_contra
        have a4 : 0 < r1 * d1 := by grind
        have a5 : 0 < r2 * (r1 * d1) := Int.mul_pos hr a4
        grind
      · have : 0 < r2 * (-d1) := Int.mul_pos hr (by omega)
        grind
    · rcases hd with hd | ⟨hd, hd2⟩
      · have : 0 < r1 * (-d2) := Int.mul_pos hr2 (by omega)
        grind
      · have : 0 < r1 * (-d1) := Int.mul_pos hr2 (by omega)
        grind
  have upOf : ∀ y, y < S.pts.length → v < y → 0 < (dir S v y).2 ∨ ((dir S v y).2 = 0 ∧ 0 < (dir S v y).1) := by
    intro y hy l
    have := O.pbelow l hy
    unfold dir dx dy
    dsimp only
    omega
  have dnOf : ∀ y, y < v → (dir S v y).2 < 0 ∨ ((dir S v y).2 = 0 ∧ (dir S v y).1 < 0) := by
    intro y l
    have := O.pbelow l lu1
    unfold dir dx dy
    dsimp only
    omega
  by_cases z : v < u
  · exact key _ _ c (upOf u lu2 z) (dnOf a (by omega))
  · have := key (dir S v a) (dir S v u) (by grind) (upOf a la2 (by omega)) (dnOf u (by omega))
    grind
/-- which of the four parts of the round a point is in, from u clockwise -/
def part (S : Plan) (v u a : Nat) : Nat := if a = u then 3 else if (v < u ↔ v < a) then (if (geoOf S).sl v u < (geoOf S).sl v a then 0 else 2) else 1
theorem Good.sooner_iff (O : Good S) {v u a b : Nat} (hu : Geo.adj (geoOf S) v u) (ha : Geo.adj (geoOf S) v a) (hb : Geo.adj (geoOf S) v b) :
    sooner (dir S v u) (dir S v a) (dir S v b) = true ↔ part S v u a < part S v u b ∨ (part S v u a = part S v u b ∧ (geoOf S).sl v a < (geoOf S).sl v b) := by
  have hh : ∀ y, Geo.adj (geoOf S) v y → half (dir S v u) (dir S v y) = if crs (dir S v u) (dir S v y) < 0 then 0 else if 0 < crs (dir S v u) (dir S v y) then 2 else if y = u then 3 else 1 := by
    intro y hy
    unfold half
    show (if crs (dir S v u) (dir S v y) < 0 then 0 else if 0 < crs (dir S v u) (dir S v y) then 2 else _) = _
    by_cases c1 : crs (dir S v u) (dir S v y) < 0
    · rw [if_pos c1, if_pos c1]
    · by_cases c2 : 0 < crs (dir S v u) (dir S v y)
      · rw [if_neg c1, if_neg c1, if_pos c2, if_pos c2]
      · rw [if_neg c1, if_neg c1, if_neg c2, if_neg c2]
        by_cases c3 : y = u
        · subst c3
          rw [if_pos rfl, if_neg]
          have n1 : 0 ≤ (dir S v y).1 * (dir S v y).1 := by
            rcases Int.le_total 0 (dir S v y).1 with q | q
            · exact Int.mul_nonneg q q
            · have := Int.mul_nonneg (a := -(dir S v y).1) (b := -(dir S v y).1) (by omega) (by omega)
              grind
          have n2 : 0 ≤ (dir S v y).2 * (dir S v y).2 := by
            rcases Int.le_total 0 (dir S v y).2 with q | q
            · exact Int.mul_nonneg q q
            · have := Int.mul_nonneg (a := -(dir S v y).2) (b := -(dir S v y).2) (by omega) (by omega)
              grind
          omega
        · rw [if_neg c3, if_pos (O.back hu hy c3 (by omega)).1]
  have cab := (O.crs_iff ha hb).1
  have cua := O.crs_iff hu ha
  have cub := O.crs_iff hu hb
  have sa : a ≠ u → (v < u ↔ v < a) → (geoOf S).sl v u ≠ (geoOf S).sl v a := fun ne s => Geo.sl_ne O.ok hu ha (fun z => ne z.symm) (by
    have nu := Geo.adj_ne O.ok hu
    have na := Geo.adj_ne O.ok ha
    omega)
  have sb : b ≠ u → (v < u ↔ v < b) → (geoOf S).sl v u ≠ (geoOf S).sl v b := fun ne s => Geo.sl_ne O.ok hu hb (fun z => ne z.symm) (by
    have nu := Geo.adj_ne O.ok hu
    have nb := Geo.adj_ne O.ok hb
    omega)
  unfold sooner
  rw [hh a ha, hh b hb]
  have e : (dir S v a).1 * (dir S v b).2 - (dir S v a).2 * (dir S v b).1 = crs (dir S v a) (dir S v b) := rfl
  rw [e]
  simp only [Bool.or_eq_true, Bool.and_eq_true, decide_eq_true_eq, beq_iff_eq]
  simp only [cab, cua.1, cua.2, cub.1, cub.2]
  unfold part
  clear hh cab cua cub e
  by_cases c1 : v < u <;> by_cases c2 : v < a <;> by_cases c3 : v < b <;> simp only [c1, c2, c3, true_and, false_and, iff_true, iff_false, true_iff, false_iff, not_true, not_false_eq_true, or_false, false_or, if_true, if_false] at sa sb ⊢ <;> grind
/-- **the next way of an outline** is that clockwise next -/
theorem Good.nxs (O : Good S) : Geo.Nxs (geoOf S) S.next := by
  intro v u hu
  have hm := near_mem.mpr hu
  have main : S.next u v ∈ S.near v ∧ ∀ x ∈ S.near v, sooner (dir S v u) (dir S v x) (dir S v (S.next u v)) = false := by
    unfold Plan.next
    have tr : ∀ a ∈ S.near v, ∀ b ∈ S.near v, ∀ c ∈ S.near v, sooner (dir S v u) (dir S v a) (dir S v b) = true → sooner (dir S v u) (dir S v b) (dir S v c) = true → sooner (dir S v u) (dir S v a) (dir S v c) = true := by
      intro a ha b hb c hc h1 h2
      rw [O.sooner_iff hu (near_mem.mp ha) (near_mem.mp hb)] at h1
      rw [O.sooner_iff hu (near_mem.mp hb) (near_mem.mp hc)] at h2
      rw [O.sooner_iff hu (near_mem.mp ha) (near_mem.mp hc)]
      grind
    have asy : ∀ a ∈ S.near v, ∀ b ∈ S.near v, sooner (dir S v u) (dir S v a) (dir S v b) = true → sooner (dir S v u) (dir S v b) (dir S v a) = false := by
      intro a ha b hb h1
      rw [O.sooner_iff hu (near_mem.mp ha) (near_mem.mp hb)] at h1
      rw [Bool.eq_false_iff]
      intro h2
      rw [O.sooner_iff hu (near_mem.mp hb) (near_mem.mp ha)] at h2
      grind
    cases e : S.near v with
    | nil =>
      rw [e] at hm
      cases hm
    | cons k r =>
      rw [e] at tr asy
      have := foldMin (lt := fun b a => sooner (dir S v u) (dir S v b) (dir S v a)) r k [k] tr asy (by simp) (by
        intro x hx
        rw [List.mem_singleton.mp hx]
        cases q : sooner (dir S v u) (dir S v k) (dir S v k) with
        | false => rfl
        | true =>
          have := asy k (by simp) k (by simp) q
          rw [q] at this
          cases this)
      exact this
  obtain ⟨mw, mn⟩ := main
  have aw := near_mem.mp mw
  have mn2 : ∀ y, Geo.adj (geoOf S) v y → ¬ (part S v u y < part S v u (S.next u v) ∨ (part S v u y = part S v u (S.next u v) ∧ (geoOf S).sl v y < (geoOf S).sl v (S.next u v))) := by
    intro y hy h
    have := mn y (near_mem.mpr hy)
    rw [(O.sooner_iff hu hy aw).mpr h] at this
    cases this
  refine ⟨hu, aw, ?_⟩
  have nu := Geo.adj_ne O.ok hu
  have nw := Geo.adj_ne O.ok aw
  have nn : ∀ y, Geo.adj (geoOf S) v y → v ≠ y := fun y hy => Geo.adj_ne O.ok hy
  have sw : S.next u v ≠ u → (v < u ↔ v < S.next u v) → (geoOf S).sl v u ≠ (geoOf S).sl v (S.next u v) := fun ne s => Geo.sl_ne O.ok hu aw (fun z => ne z.symm) (by omega)
  have mn3 := mn2
  generalize S.next u v = w at *
  unfold part at mn3
  by_cases cu : w = u
  · right
    subst cu
    constructor
    · intro y hy h
      have := mn3 y hy
      have := nn y hy
      unfold Geo.clk at h
      grind
    · intro y hy h
      have := mn3 y hy
      have := nn y hy
      unfold Geo.clk at h
      grind
  · by_cases cs : v < u ↔ v < w
    · have sw' := sw cu cs
      by_cases cl : (geoOf S).sl v u < (geoOf S).sl v w
      · left
        constructor
        · unfold Geo.clk
          right
          refine ⟨by omega, cl⟩
        · intro y hy h
          have q := mn3 y hy
          have := nn y hy
          unfold Geo.clk at h
          grind
      · right
        constructor
        · intro y hy h
          have q := mn3 y hy
          have := nn y hy
          unfold Geo.clk at h
          grind
        · intro y hy h
          have q := mn3 y hy
          have := nn y hy
          unfold Geo.clk at h
          grind
    · by_cases cl : v < u
      · left
        constructor
        · unfold Geo.clk
          left
          omega
        · intro y hy h
          have q := mn3 y hy
          have := nn y hy
          unfold Geo.clk at h
          grind
      · right
        constructor
        · intro y hy h
          have q := mn3 y hy
          have := nn y hy
          unfold Geo.clk at h
          grind
        · intro y hy h
          have q := mn3 y hy
          have := nn y hy
          unfold Geo.clk at h
          grind
end
end Lead
namespace Lead
open GlaBase GlaPlan
theorem getD_set {a : Array Bool} {i j : Nat} {d : Bool} : (a.setIfInBounds i true).getD j d = if i = j ∧ i < a.size then true else a.getD j d := by
  rw [Array.getD_eq_getD_getElem?, Array.getD_eq_getD_getElem?, Array.getElem?_setIfInBounds]
  by_cases c : i = j
  · subst c
    rw [if_pos rfl]
    by_cases d : i < a.size
    · rw [if_pos d, if_pos ⟨rfl, d⟩]
      rfl
    · rw [if_neg d, if_neg (fun z => d z.2)]
      rw [Array.getElem?_eq_none (by omega)]
  · rw [if_neg c, if_neg (fun z => c z.1)]
theorem getD_in {a : Array Bool} {j : Nat} (h : a.getD j true = false) : j < a.size := by
  false_or_by_contra
  rw [Array.getD_eq_getD_getElem?, Array.getElem?_eq_none (by omega)] at h
  cases h
theorem spread_sound {near : Array (List Nat)} {P bad : Nat → Prop} (st : ∀ k j, P k → j ∈ near.getD k [] → ¬ bad j → P j) : ∀ (n : Nat) (todo : List Nat) (seen : Array Bool), (∀ k ∈ todo, P k) → (∀ v, seen.getD v false = true → bad v ∨ P v) → (∀ v, bad v → seen.getD v true = true) →
    ∀ v, (spread near n todo seen).getD v false = true → bad v ∨ P v
  | 0, todo, seen, h1, h2, h3, v, h => h2 v h
  | n + 1, [], seen, h1, h2, h3, v, h => h2 v h
  | n + 1, k :: r, seen, h1, h2, h3, v, h => by
    have fo : ∀ (l : List Nat), (∀ j ∈ l, j ∈ near.getD k []) → ∀ (a : List Nat × Array Bool), (∀ k ∈ a.1, P k) → (∀ v, a.2.getD v false = true → bad v ∨ P v) → (∀ v, bad v → a.2.getD v true = true) →
        (∀ j ∈ (l.foldl (fun (a : List Nat × Array Bool) (j : Nat) => if a.2.getD j true = true then a else (j :: a.1, a.2.setIfInBounds j true)) a).1, P j) ∧ (∀ v, (l.foldl (fun (a : List Nat × Array Bool) (j : Nat) => if a.2.getD j true = true then a else (j :: a.1, a.2.setIfInBounds j true)) a).2.getD v false = true → bad v ∨ P v) ∧ (∀ v, bad v → (l.foldl (fun (a : List Nat × Array Bool) (j : Nat) => if a.2.getD j true = true then a else (j :: a.1, a.2.setIfInBounds j true)) a).2.getD v true = true) := by
      intro l
      induction l with
      | nil => intro _ a a1 a2 a3; exact ⟨a1, a2, a3⟩
      | cons j l ih =>
        intro hl a a1 a2 a3
        rw [List.foldl_cons]
        by_cases c : a.2.getD j true = true
        · rw [if_pos c]
          exact ih (fun i hi => hl i (by simp [hi])) a a1 a2 a3
        · rw [if_neg c]
          have c2 : a.2.getD j true = false := by simpa using c
          have nb : ¬ bad j := fun z => by
            rw [a3 j z] at c2
            cases c2
          have pj := st k j (h1 k (by simp)) (hl j (by simp)) nb
          refine ih (fun i hi => hl i (by simp [hi])) _ ?_ ?_ ?_
          · intro i hi
            rcases List.mem_cons.mp hi with rfl | hi
            · exact pj
            · exact a1 i hi
          · intro v hv
            dsimp only at hv
            rw [getD_set] at hv
            by_cases q : j = v ∧ j < a.2.size
            · rw [← q.1]
              exact .inr pj
            · rw [if_neg q] at hv
              exact a2 v hv
          · intro v hv
            dsimp only
            rw [getD_set]
            by_cases q : j = v ∧ j < a.2.size
            · rw [if_pos q]
            · rw [if_neg q]
              exact a3 v hv
    have z := fo (near.getD k []) (fun _ h => h) (r, seen) (fun j hj => h1 j (by simp [hj])) h2 h3
    exact spread_sound st n _ _ z.1 z.2.1 z.2.2 v h
theorem nears_get (S : Plan) (k : Nat) : S.nears.getD k [] = if k < S.pts.length then S.near k else [] := by
  unfold Plan.nears
  rw [Array.getD_eq_getD_getElem?]
  by_cases c : k < S.pts.length
  · simp [c]
  · simp [c]
theorem none_get {n v : Nat} {d : Bool} : (noneSeen n).getD v d = if v < n then false else d := by
  unfold noneSeen
  rw [Array.getD_eq_getD_getElem?]
  by_cases c : v < n
  · simp [c]
  · simp [c]
namespace Good
variable {S : Plan}
theorem conn (O : Good S) : ∀ v, v < (geoOf S).n → Geo.Way (geoOf S) (fun _ => False) 0 v := by
  intro v hv
  have h := List.find?_eq_none.mp O.r9 v (List.mem_range.mpr hv)
  have h : (seenFrom S.nears S.pts.length 0 (noneSeen S.pts.length)).getD v false = true := by simpa using h
  unfold seenFrom at h
  have := spread_sound (P := Geo.Way (geoOf S) (fun _ => False) 0) (bad := fun _ => False) (near := S.nears) (by
    intro k j hk hj nb
    rw [nears_get] at hj
    split at hj
    · exact .step hk (near_mem.mp hj) nb
    · cases hj) (S.pts.length + 1) [0] _ (by
    intro k hk
    rw [List.mem_singleton.mp hk]
    exact .here) (by
    intro u hu
    rw [getD_set, none_get] at hu
    by_cases q : 0 = u ∧ 0 < (noneSeen S.pts.length).size
    · rw [← q.1]
      exact .inr .here
    · rw [if_neg q] at hu
      split at hu <;> cases hu) (by intro u hu; exact hu.elim) v h
  rcases this with q | q
  · exact q.elim
  · exact q
theorem two (O : Good S) : ∀ c, c < (geoOf S).n → ∃ s, s ≠ c ∧ ∀ v, v < (geoOf S).n → v ≠ c → Geo.Way (geoOf S) (fun z => z = c) s v := by
  intro c hc
  have hc : c < S.pts.length := hc
  have h := List.find?_eq_none.mp O.r10 c (List.mem_range.mpr hc)
  refine ⟨if c = 0 then 1 else 0, by split <;> omega, fun v hv nv => ?_⟩
  have hv : v < S.pts.length := hv
  unfold cuts at h
  have hcon : ¬ false ∈ (seenFrom S.nears S.pts.length (if c = 0 then 1 else 0) ((noneSeen S.pts.length).setIfInBounds c true)) := by
    intro z
    exact h (Array.contains_iff.mpr z)
  have size : ∀ (n : Nat) (todo : List Nat) (seen : Array Bool), (spread S.nears n todo seen).size = seen.size := by
    intro n
    induction n with
    | zero => intro todo seen; rfl
    | succ n ih =>
      intro todo seen
      cases todo with
      | nil => rfl
      | cons k r =>
        have fo : ∀ (l : List Nat) (a : List Nat × Array Bool), (l.foldl (fun (a : List Nat × Array Bool) (j : Nat) => if a.2.getD j true = true then a else (j :: a.1, a.2.setIfInBounds j true)) a).2.size = a.2.size := by
          intro l
          induction l with
          | nil => intro a; rfl
          | cons j l ih2 =>
            intro a
            rw [List.foldl_cons, ih2]
            split
            · rfl
            · exact Array.size_setIfInBounds
        exact (ih _ _).trans (fo _ _)
  have hv2 : (seenFrom S.nears S.pts.length (if c = 0 then 1 else 0) ((noneSeen S.pts.length).setIfInBounds c true)).getD v false = true := by
    have sz : (seenFrom S.nears S.pts.length (if c = 0 then 1 else 0) ((noneSeen S.pts.length).setIfInBounds c true)).size = S.pts.length := by
      unfold seenFrom
      rw [size, Array.size_setIfInBounds, Array.size_setIfInBounds]
      simp [noneSeen]
    rw [Array.getD_eq_getD_getElem?, Array.getElem?_eq_getElem (by omega)]
    show (seenFrom S.nears S.pts.length (if c = 0 then 1 else 0) ((noneSeen S.pts.length).setIfInBounds c true))[v] = true
    cases q : (seenFrom S.nears S.pts.length (if c = 0 then 1 else 0) ((noneSeen S.pts.length).setIfInBounds c true))[v] with
    | true => rfl
    | false => exact absurd (q ▸ Array.getElem_mem (by omega)) hcon
  unfold seenFrom at hv2
  have ns : (noneSeen S.pts.length).size = S.pts.length := by simp [noneSeen]
  have := spread_sound (P := Geo.Way (geoOf S) (fun z => z = c) (if c = 0 then 1 else 0)) (bad := fun z => z = c) (near := S.nears) (by
    intro k j hk hj nb
    rw [nears_get] at hj
    split at hj
    · exact .step hk (near_mem.mp hj) nb
    · cases hj) (S.pts.length + 1) [if c = 0 then 1 else 0] _ (by
    intro k hk
    rw [List.mem_singleton.mp hk]
    exact .here) (by
    intro u hu
    rw [getD_set, getD_set, none_get] at hu
    by_cases q : (if c = 0 then 1 else 0) = u ∧ (if c = 0 then 1 else 0) < ((noneSeen S.pts.length).setIfInBounds c true).size
    · rw [← q.1]
      exact .inr .here
    · rw [if_neg q] at hu
      by_cases q2 : c = u ∧ c < (noneSeen S.pts.length).size
      · exact .inl q2.1.symm
      · rw [if_neg q2] at hu
        split at hu <;> cases hu) (by
    intro u hu
    rw [getD_set, getD_set]
    subst hu
    rw [if_pos (c := u = u ∧ _) ⟨rfl, by omega⟩]
    exact ite_self _) v hv2
  rcases this with q | q
  · exact absurd q nv
  · exact q
theorem outer (O : Good S) (np : 0 < S.pts.length) : ∃ o, Geo.Outer (geoOf S) o := by
  have h8 := List.find?_eq_none.mp O.r8 0 (List.mem_range.mpr np)
  have ne : S.near 0 ≠ [] := by
    intro z
    rw [z] at h8
    simp at h8
  obtain ⟨o, ho, hm⟩ := argmin (fun y => (geoOf S).sl 0 y) ne
  refine ⟨o, near_mem.mp ho, fun z hz c => ?_⟩
  have := hm z (near_mem.mpr hz)
  unfold Geo.clk at c
  grind
end Good
end Lead
namespace Lead
open GlaBase GlaPlan
theorem chain_sum {g : Nat → Int} : ∀ (l : List Nat) (c d : Nat), l.Pairwise (· < ·) → c ∈ l → d ∈ l → (∀ j ∈ l, c ≤ j ∧ j ≤ d) → sm (l.zip (l.drop 1)) (fun e => g e.1 - g e.2) = g c - g d
  | [], c, d, _, hc, _, _ => by cases hc
  | [x], c, d, _, hc, hd, _ => by
    rw [List.mem_singleton.mp hc, List.mem_singleton.mp hd]
    simp [sm]
  | x :: y :: r, c, d, hp, hc, hd, hb => by
    obtain ⟨p1, p2⟩ := List.pairwise_cons.mp hp
    have cx : c = x := by
      rcases List.mem_cons.mp hc with h | h
      · exact h
      · have := p1 c h
        have := (hb x (by simp)).1
        omega
    have dy : d ∈ y :: r := by
      rcases List.mem_cons.mp hd with h | h
      · have := p1 y (by simp)
        have := (hb y (by simp)).2
        omega
      · exact h
    obtain ⟨q1, q2⟩ := List.pairwise_cons.mp p2
    have ih := chain_sum (g := g) (y :: r) y d p2 (by simp) dy fun j hj => by
      refine ⟨?_, (hb j (by simp [hj])).2⟩
      rcases List.mem_cons.mp hj with h | h
      · omega
      · have := q1 j h
        omega
    simp only [List.drop_succ_cons, List.drop_zero, List.zip_cons_cons, sm] at ih ⊢
    rw [ih, cx]
    omega
theorem zip_adj {P : Nat → Nat → Prop} : ∀ {l : List Nat}, l.Pairwise P → ∀ d ∈ l.zip (l.drop 1), P d.1 d.2
  | [], _, d, h => by simp at h
  | [x], _, d, h => by simp at h
  | x :: y :: r, hp, d, h => by
    obtain ⟨p1, p2⟩ := List.pairwise_cons.mp hp
    simp only [List.drop_succ_cons, List.drop_zero, List.zip_cons_cons] at h
    rcases List.mem_cons.mp h with rfl | h
    · exact p1 y (by simp)
    · exact zip_adj (l := y :: r) p2 d (by simpa using h)
theorem zip_mem {l : List Nat} {d : Nat × Nat} (h : d ∈ l.zip (l.drop 1)) : d.1 ∈ l ∧ d.2 ∈ l := by
  have := List.of_mem_zip (a := d.1) (b := d.2) h
  exact ⟨this.1, List.mem_of_mem_drop this.2⟩
theorem edge_asc (S : Plan) (on : Pt → Bool) : (edgePts S on).Pairwise (· < ·) := by
  unfold edgePts
  exact List.Pairwise.filter _ List.pairwise_lt_range
theorem edge_mem {S : Plan} {on : Pt → Bool} {j : Nat} : j ∈ edgePts S on ↔ j < S.pts.length ∧ on (S.pt j) = true := by
  unfold edgePts
  rw [List.mem_filter, List.mem_range]
/-- the ways along an edge, from point to point -/
def ed (S : Plan) (on : Pt → Bool) : List (Nat × Nat) := (edgePts S on).zip ((edgePts S on).drop 1)
theorem ed_line {S : Plan} {on : Pt → Bool} (h : chained S (edgePts S on) = true) {d : Nat × Nat} (hd : d ∈ ed S on) : d ∈ S.lines ∧ d.1 < d.2 ∧ (d.1 < S.pts.length ∧ on (S.pt d.1) = true) ∧ (d.2 < S.pts.length ∧ on (S.pt d.2) = true) := by
  have lt := zip_adj (edge_asc S on) d hd
  have hm := zip_mem hd
  unfold chained at h
  have := List.all_eq_true.mp h d hd
  unfold Plan.joined at this
  rw [show min d.1 d.2 = d.1 by omega, show max d.1 d.2 = d.2 by omega] at this
  exact ⟨List.contains_iff_mem.mp this, lt, edge_mem.mp hm.1, edge_mem.mp hm.2⟩
/-- the frame's corners and edges, as rule 6 says -/
structure Frame (S : Plan) (a b c d : Nat) : Prop where
  la : a < S.pts.length
  lb : b < S.pts.length
  lc : c < S.pts.length
  ld : d < S.pts.length
  pa : S.pt a = ⟨0, 0⟩
  pb : S.pt b = ⟨S.w, 0⟩
  pc : S.pt c = ⟨0, S.h⟩
  pd : S.pt d = ⟨S.w, S.h⟩
  bottom : chained S (edgePts S fun (p : Pt) => p.y == 0) = true
  top : chained S (edgePts S fun (p : Pt) => p.y == S.h) = true
  left : chained S (edgePts S fun (p : Pt) => p.x == 0) = true
  right : chained S (edgePts S fun (p : Pt) => p.x == S.w) = true
theorem pt_of_mem {S : Plan} {p : Pt} (h : S.pts.contains p = true) : ∃ i, i < S.pts.length ∧ S.pt i = p := by
  obtain ⟨i, hi⟩ := List.getElem?_of_mem (List.contains_iff_mem.mp h)
  have lt := (List.getElem?_eq_some_iff.mp hi).1
  rw [pt_get lt] at hi
  exact ⟨i, lt, Option.some.inj hi⟩
theorem Good.frame {S : Plan} (O : Good S) : ∃ a b c d, Frame S a b c d := by
  have h := O.r6
  unfold frameOk at h
  simp only [Bool.and_eq_true] at h
  obtain ⟨h1, h2, h3, h4, h5, h6, h7, h8⟩ := h
  obtain ⟨a, la, pa⟩ := pt_of_mem h1
  obtain ⟨b, lb, pb⟩ := pt_of_mem h2
  obtain ⟨c, lc, pc⟩ := pt_of_mem h3
  obtain ⟨d, ld, pd⟩ := pt_of_mem h4
  exact ⟨a, b, c, d, la, lb, lc, ld, pa, pb, pc, pd, h5, h6, h7, h8⟩
/-- what is left of a point's level, by the turn -/
def lft (S : Plan) (z : Pt) (d : Nat × Nat) : Prop := ((S.pt d.1).y ≤ z.y ∧ z.y < (S.pt d.2).y) ∧ 0 < turn (S.pt d.1) (S.pt d.2) z
instance (S : Plan) (z : Pt) (d : Nat × Nat) : Decidable (lft S z d) := by unfold lft; infer_instance
/-- a way goes up with the point to its left: 1; down with it to its right: -1 -/
def psd (S : Plan) (z : Pt) (d : Nat × Nat) : Int := (if lft S z d then 1 else 0) - (if lft S z (d.2, d.1) then 1 else 0)
theorem psd_anti (S : Plan) (z : Pt) (a b : Nat) : psd S z (b, a) = - psd S z (a, b) := by
  unfold psd
  dsimp only
  omega
structure Inn (S : Plan) (z : Pt) : Prop where
  x0 : 0 < z.x
  xw : z.x < S.w
  y0 : 0 < z.y
  yh : z.y < S.h
  off : ∀ e ∈ S.lines, isOn (S.pt e.1) (S.pt e.2) z = false
theorem inn_of_clear {S : Plan} {z : Pt} (h : clear S z = true) : Inn S z := by
  unfold clear onLines at h
  simp only [Bool.and_eq_true, decide_eq_true_eq, Bool.not_eq_true', List.any_eq_false] at h
  exact ⟨h.1, h.2.1, h.2.2.1, h.2.2.2.1, fun e he => by simpa using h.2.2.2.2 e he⟩
/-- the frame's round, to the left -/
def ring (S : Plan) : List (Nat × Nat) := ed S (fun (p : Pt) => p.y == 0) ++ (ed S (fun (p : Pt) => p.x == S.w) ++ ((ed S (fun (p : Pt) => p.y == S.h)).map Prod.swap ++ (ed S (fun (p : Pt) => p.x == 0)).map Prod.swap))
section
variable {S : Plan} {a b c d : Nat}
theorem ed_sum (O : Good S) {on : Pt → Bool} {g : Nat → Int} {c d : Nat} (hc : c < S.pts.length) (hd : d < S.pts.length) (oc : on (S.pt c) = true) (od : on (S.pt d) = true) (hb : ∀ j, j < S.pts.length → on (S.pt j) = true → c ≤ j ∧ j ≤ d) :
    sm (ed S on) (fun e => g e.1 - g e.2) = g c - g d := by
  refine chain_sum _ c d (edge_asc S on) (edge_mem.mpr ⟨hc, oc⟩) (edge_mem.mpr ⟨hd, od⟩) fun j hj => ?_
  have := edge_mem.mp hj
  exact hb j this.1 this.2
theorem Frame.sums (O : Good S) (F : Frame S a b c d) (g : Nat → Int) :
    sm (ed S fun (p : Pt) => p.y == 0) (fun e => g e.1 - g e.2) = g a - g b ∧ sm (ed S fun (p : Pt) => p.x == S.w) (fun e => g e.1 - g e.2) = g b - g d ∧
    sm (ed S fun (p : Pt) => p.y == S.h) (fun e => g e.1 - g e.2) = g c - g d ∧ sm (ed S fun (p : Pt) => p.x == 0) (fun e => g e.1 - g e.2) = g a - g c := by
  have lo : ∀ i j, i < S.pts.length → j < S.pts.length → ((S.pt i).y < (S.pt j).y ∨ ((S.pt i).y = (S.pt j).y ∧ (S.pt i).x ≤ (S.pt j).x)) → i ≤ j := by
    intro i j hi hj h
    false_or_by_contra
    have := O.pbelow (i := j) (j := i) (by omega) hi
    omega
  have bx := @Good.box S O
  have A := F.pa
  have B := F.pb
  have C := F.pc
  have D := F.pd
  refine ⟨ed_sum O F.la F.lb (by simp [A]) (by simp [B]) fun j hj h => ?_, ed_sum O F.lb F.ld (by simp [B]) (by simp [D]) fun j hj h => ?_, ed_sum O F.lc F.ld (by simp [C]) (by simp [D]) fun j hj h => ?_, ed_sum O F.la F.lc (by simp [A]) (by simp [C]) fun j hj h => ?_⟩
  · have h := beq_iff_eq.mp h
    have := bx hj
    exact ⟨lo a j F.la hj (by rw [A]; dsimp only; omega), lo j b hj F.lb (by rw [B]; dsimp only; omega)⟩
  · have h := beq_iff_eq.mp h
    have := bx hj
    exact ⟨lo b j F.lb hj (by rw [B]; dsimp only; omega), lo j d hj F.ld (by rw [D]; dsimp only; omega)⟩
  · have h := beq_iff_eq.mp h
    have := bx hj
    exact ⟨lo c j F.lc hj (by rw [C]; dsimp only; omega), lo j d hj F.ld (by rw [D]; dsimp only; omega)⟩
  · have h := beq_iff_eq.mp h
    have := bx hj
    exact ⟨lo a j F.la hj (by rw [A]; dsimp only; omega), lo j c hj F.lc (by rw [C]; dsimp only; omega)⟩
theorem ring_adj (O : Good S) (F : Frame S a b c d) : ∀ e ∈ ring S, Geo.adj (geoOf S) e.1 e.2 := by
  intro e he
  unfold ring at he
  simp only [List.mem_append, List.mem_map] at he
  rcases he with h | h | ⟨f, h, rfl⟩ | ⟨f, h, rfl⟩
  · exact .inl (ed_line F.bottom h).1
  · exact .inl (ed_line F.right h).1
  · exact .inr (ed_line F.top h).1
  · exact .inr (ed_line F.left h).1
theorem ring_sum (O : Good S) (F : Frame S a b c d) (g : Nat → Int) : sm (ring S) (fun e => g e.1 - g e.2) = 0 := by
  have q := F.sums O g
  unfold ring
  rw [sm_append, sm_append, sm_append, sm_map, sm_map]
  have e1 : sm (ed S fun (p : Pt) => p.y == S.h) (fun e => g e.swap.1 - g e.swap.2) = - sm (ed S fun (p : Pt) => p.y == S.h) (fun e => g e.1 - g e.2) := by
    rw [← sm_neg]
    refine sm_congr fun e _ => ?_
    simp only [Prod.fst_swap, Prod.snd_swap]
    omega
  have e2 : sm (ed S fun (p : Pt) => p.x == 0) (fun e => g e.swap.1 - g e.swap.2) = - sm (ed S fun (p : Pt) => p.x == 0) (fun e => g e.1 - g e.2) := by
    rw [← sm_neg]
    refine sm_congr fun e _ => ?_
    simp only [Prod.fst_swap, Prod.snd_swap]
    omega
  rw [e1, e2]
  omega
theorem ring_circ (O : Good S) (F : Frame S a b c d) : Geo.Circ (geoOf S) (Geo.fl (ring S)) := by
  refine Geo.circ_fl O.ok (ring_adj O F) fun v => ?_
  exact ring_sum O F (fun u => if u = v then 1 else 0)
/-- the frame goes once round each point within it -/
theorem ring_psd (O : Good S) (F : Frame S a b c d) {z : Pt} (I : Inn S z) : sm (ring S) (psd S z) = 1 := by
  unfold ring
  rw [sm_append, sm_append, sm_append, sm_map, sm_map]
  have e1 : sm (ed S fun (p : Pt) => p.y == 0) (psd S z) = 0 := by
    refine sm_zero_of fun e he => ?_
    obtain ⟨_, lt, ⟨l1, o1⟩, ⟨l2, o2⟩⟩ := ed_line F.bottom he
    have o1 := beq_iff_eq.mp o1
    have o2 := beq_iff_eq.mp o2
    have i0 := I.y0
    unfold psd
    rw [if_neg, if_neg]
    · rfl
    · rintro ⟨⟨w1, w2⟩, _⟩
      dsimp only at w1 w2
      omega
    · rintro ⟨⟨w1, w2⟩, _⟩
      omega
  have e2 : sm (ed S fun (p : Pt) => p.y == S.h) (fun e => psd S z e.swap) = 0 := by
    refine sm_zero_of fun e he => ?_
    obtain ⟨_, lt, ⟨l1, o1⟩, ⟨l2, o2⟩⟩ := ed_line F.top he
    have o1 := beq_iff_eq.mp o1
    have o2 := beq_iff_eq.mp o2
    have i0 := I.yh
    unfold psd
    rw [if_neg, if_neg]
    · rfl
    · rintro ⟨⟨w1, w2⟩, _⟩
      simp only [Prod.fst_swap, Prod.snd_swap] at w1 w2
      omega
    · rintro ⟨⟨w1, w2⟩, _⟩
      simp only [Prod.fst_swap, Prod.snd_swap] at w1 w2
      omega
  have e3 : sm (ed S fun (p : Pt) => p.x == 0) (fun e => psd S z e.swap) = 0 := by
    refine sm_zero_of fun e he => ?_
    obtain ⟨_, lt, ⟨l1, o1⟩, ⟨l2, o2⟩⟩ := ed_line F.left he
    have o1 := beq_iff_eq.mp o1
    have o2 := beq_iff_eq.mp o2
    have i0 := I.x0
    have bl := O.pbelow lt l2
    unfold psd
    rw [if_neg, if_neg]
    · rfl
    · rintro ⟨⟨w1, w2⟩, w3⟩
      simp only [Prod.fst_swap, Prod.snd_swap] at w1 w2 w3
      unfold turn dx dy at w3
      rw [o1, o2] at w3
      have : 0 < (((S.pt e.2).y : Int) - ((S.pt e.1).y : Int)) * (z.x : Int) := Int.mul_pos (by omega) (by omega)
      grind
    · rintro ⟨⟨w1, w2⟩, w3⟩
      simp only [Prod.fst_swap, Prod.snd_swap] at w1 w2
      omega
  have e4 : sm (ed S fun (p : Pt) => p.x == S.w) (psd S z) = 1 := by
    have q := (F.sums O (fun u => if (S.pt u).y ≤ z.y then 1 else 0)).2.1
    rw [F.pb, F.pd, if_pos (by dsimp only; omega), if_neg (by have := I.yh; dsimp only; omega)] at q
    rw [← show (1 : Int) - 0 = 1 from rfl, ← q]
    refine sm_congr fun e he => ?_
    obtain ⟨_, lt, ⟨l1, o1⟩, ⟨l2, o2⟩⟩ := ed_line F.right he
    have o1 := beq_iff_eq.mp o1
    have o2 := beq_iff_eq.mp o2
    have i0 := I.xw
    have bl := O.pbelow lt l2
    have n1 : ¬ lft S z (e.2, e.1) := by
      rintro ⟨⟨w1, w2⟩, w3⟩
      dsimp only at w1 w2
      omega
    have n2 : lft S z e ↔ (S.pt e.1).y ≤ z.y ∧ z.y < (S.pt e.2).y := by
      unfold lft
      constructor
      · exact fun w => w.1
      · intro w
        refine ⟨w, ?_⟩
        unfold turn dx dy
        rw [o1, o2]
        have : 0 < (((S.pt e.2).y : Int) - ((S.pt e.1).y : Int)) * ((S.w : Int) - (z.x : Int)) := Int.mul_pos (by omega) (by omega)
        grind
    unfold psd
    rw [if_neg n1]
    simp only [n2]
    split <;> split <;> split <;> omega
  rw [e1, e2, e3, e4]
  rfl
/-- the level of a point: the points not above it -/
theorem level_of (O : Good S) (F : Frame S a b c d) {z : Pt} (I : Inn S z) : ∃ t, t + 1 < S.pts.length ∧ ∀ i, i < S.pts.length → (i ≤ t ↔ (S.pt i).y ≤ z.y) := by
  have mono : ∀ i j, i ≤ j → j < S.pts.length → (S.pt i).y ≤ (S.pt j).y := by
    intro i j ij hj
    rcases Nat.lt_or_ge i j with h | h
    · have := O.pbelow h hj
      omega
    · rw [show i = j by omega]
      exact Nat.le_refl _
  have step : ∀ k, k < S.pts.length → z.y < (S.pt k).y → ∃ t, t + 1 ≤ k ∧ (S.pt t).y ≤ z.y ∧ z.y < (S.pt (t + 1)).y := by
    intro k
    induction k with
    | zero =>
      intro hk h
      have := mono 0 a (by omega) F.la
      rw [F.pa] at this
      dsimp only at this
      have := I.y0
      omega
    | succ k ih =>
      intro hk h
      by_cases q : (S.pt k).y ≤ z.y
      · exact ⟨k, by omega, q, h⟩
      · obtain ⟨t, t1, t2⟩ := ih (by omega) (by omega)
        exact ⟨t, by omega, t2⟩
  obtain ⟨t, t1, t2, t3⟩ := step d F.ld (by rw [F.pd]; exact I.yh)
  have := F.ld
  refine ⟨t, by omega, fun i hi => ⟨fun h => ?_, fun h => ?_⟩⟩
  · have := mono i t h (by omega)
    omega
  · false_or_by_contra
    have := mono (t + 1) i (by omega) hi
    omega
theorem turn_z {p q z : Pt} {x h : Rat} (N : Rat) (e1 : x = ((z.x : Int) : Rat)) (e2 : h = N * ((z.y : Int) : Rat) + ((z.x : Int) : Rat)) : 
    N * ((turn p q z : Int) : Rat) = ((((q.x : Int) : Rat)) - (((p.x : Int) : Rat))) * (h - (N * ((q.y : Int) : Rat) + ((q.x : Int) : Rat))) - ((N * ((q.y : Int) : Rat) + ((q.x : Int) : Rat)) - (N * ((p.y : Int) : Rat) + ((p.x : Int) : Rat))) * (x - ((q.x : Int) : Rat)) := by
  subst e1 e2
  unfold turn dx dy
  push_cast
  grind
end
end Lead
namespace Lead
open GlaBase GlaPlan
section
variable {S : Plan} {a b c d : Nat}
/-- a point's height -/
def hz (S : Plan) (z : Pt) : Rat := ((((S.w + 1) * z.y + z.x : Nat) : Int) : Rat)
theorem turn_at (O : Good S) {e : Nat × Nat} (he : e ∈ S.lines) (z : Pt) : (((S.w + 1 : Nat) : Int) : Rat) * ((turn (S.pt e.1) (S.pt e.2) z : Int) : Rat) = ((geoOf S).h e.2 - (geoOf S).h e.1) * ((geoOf S).at_ e (hz S z) - (((z.x : Int)) : Rat)) := by
  have lt := O.ok.hline he
  have e1 : ((geoOf S).h e.2 - (geoOf S).h e.1) * ((geoOf S).at_ e (hz S z) - (((z.x : Int)) : Rat)) = ((geoOf S).x e.2 - (geoOf S).x e.1) * (hz S z - (geoOf S).h e.2) - ((geoOf S).h e.2 - (geoOf S).h e.1) * (((z.x : Int) : Rat) - (geoOf S).x e.2) := by
    unfold Geo.at_ Geo.sl
    grind
  rw [e1]
  unfold hz geoOf turn dx dy
  dsimp only
  simp only [← Rat.intCast_sub, ← Rat.intCast_mul]
  congr 1
  push_cast
  grind
theorem turn_left (O : Good S) {e : Nat × Nat} (he : e ∈ S.lines) (z : Pt) : (0 < turn (S.pt e.1) (S.pt e.2) z ↔ (((z.x : Int)) : Rat) < (geoOf S).at_ e (hz S z)) ∧ (turn (S.pt e.1) (S.pt e.2) z < 0 ↔ (geoOf S).at_ e (hz S z) < (((z.x : Int)) : Rat)) := by
  have lt := O.ok.hline he
  have w := mul_sign (p := ((turn (S.pt e.1) (S.pt e.2) z : Int) : Rat)) (wpos S)
  have k := mul_sign (k := (geoOf S).h e.2 - (geoOf S).h e.1) (p := (geoOf S).at_ e (hz S z) - (((z.x : Int)) : Rat)) (by grind)
  have z' := cast_sign (z := turn (S.pt e.1) (S.pt e.2) z)
  rw [turn_at O he z] at w
  rw [← z'.1, ← z'.2, ← w.1, ← w.2, k.1, k.2]
  grind
theorem left_up (O : Good S) (F : Frame S a b c d) {z : Pt} (I : Inn S z) {t : Nat} (ht : t + 1 < S.pts.length) (hl : ∀ i, i < S.pts.length → (i ≤ t ↔ (S.pt i).y ≤ z.y)) :
    ∀ e f, e ∈ S.lines → f ∈ S.lines → Geo.cr e t → Geo.cr f t → 0 < turn (S.pt e.1) (S.pt e.2) z → Geo.rt (geoOf S) t e f → 0 < turn (S.pt f.1) (S.pt f.2) z := by
  intro e f he hf ce cf pe r
  false_or_by_contra
  rename_i nf
  have je := O.line_lt he
  have jf := O.line_lt hf
  have nef : e ≠ f := by rintro rfl; exact nf pe
  have ye1 := (hl e.1 (by omega)).mp ce.1
  have yf1 := (hl f.1 (by omega)).mp cf.1
  have ye2 : z.y < (S.pt e.2).y := by
    have := hl e.2 (by omega)
    have := ce.2
    omega
  have yf2 : z.y < (S.pt f.2).y := by
    have := hl f.2 (by omega)
    have := cf.2
    omega
  have pf : turn (S.pt f.1) (S.pt f.2) z < 0 := by
    have : turn (S.pt f.1) (S.pt f.2) z ≠ 0 := by
      intro q
      have := on_of_row q (.inl ⟨by omega, by omega, by omega⟩)
      rw [I.off f hf] at this
      cases this
    omega
  have ae := (turn_left O he z).1.mp pe
  have af := (turn_left O hf z).2.mp pf
  have q1 := Geo.cr_in O.ok he ce
  have q2 := Geo.cr_in O.ok hf cf
  have ap := Geo.apart O.ok he hf nef q1.2.2.1 q2.2.2.1 q1.2.2.2 q2.2.2.2
  have rl : (geoOf S).at_ e ((geoOf S).lev t) < (geoOf S).at_ f ((geoOf S).lev t) := by
    unfold Geo.rt at r
    grind
  -- heights of ends against z's
  have hlow : ∀ i, i < S.pts.length → (geoOf S).h i ≤ hz S z ∨ (z.y ≤ (S.pt i).y ∧ ((S.pt i).y = z.y → z.x < (S.pt i).x)) := by
    intro i hi
    by_cases q : (S.w + 1) * (S.pt i).y + (S.pt i).x ≤ (S.w + 1) * z.y + z.x
    · left
      show ((((S.w + 1) * (S.pt i).y + (S.pt i).x : Nat) : Int) : Rat) ≤ ((((S.w + 1) * z.y + z.x : Nat) : Int) : Rat)
      exact_mod_cast q
    · right
      have bx := O.box hi
      have zx := I.xw
      refine ⟨?_, fun w => by rw [w] at q; omega⟩
      false_or_by_contra
      have : (S.w + 1) * ((S.pt i).y + 1) ≤ (S.w + 1) * z.y := Nat.mul_le_mul_left _ (by omega)
      rw [Nat.mul_add] at this
      omega
  have hhigh : ∀ i, i < S.pts.length → z.y < (S.pt i).y → hz S z ≤ (geoOf S).h i := by
    intro i hi w
    have zx := I.xw
    have : (S.w + 1) * (z.y + 1) ≤ (S.w + 1) * (S.pt i).y := Nat.mul_le_mul_left _ (by omega)
    rw [Nat.mul_add] at this
    show ((((S.w + 1) * z.y + z.x : Nat) : Int) : Rat) ≤ ((((S.w + 1) * (S.pt i).y + (S.pt i).x : Nat) : Int) : Rat)
    have q : (S.w + 1) * z.y + z.x ≤ (S.w + 1) * (S.pt i).y + (S.pt i).x := by omega
    exact_mod_cast q
  have he2 := hhigh e.2 (by omega) ye2
  have hf2 := hhigh f.2 (by omega) yf2
  -- no way: the sides at a height of both against the sides at the level
  have no : ∀ H, (geoOf S).h e.1 ≤ H → (geoOf S).h f.1 ≤ H → H ≤ (geoOf S).h e.2 → H ≤ (geoOf S).h f.2 → (geoOf S).at_ f H < (geoOf S).at_ e H → False := by
    intro H h1 h2 h3 h4 h5
    rcases (by grind : H < (geoOf S).lev t ∨ (geoOf S).lev t < H ∨ H = (geoOf S).lev t) with w | w | w
    · exact Geo.no_flip O.ok hf he w h2 h1 (by grind) (by grind) h5 rl
    · exact Geo.no_flip O.ok he hf w (by grind) (by grind) h3 h4 rl h5
    · subst w
      grind
  -- f begins at or below z
  have f1 : (geoOf S).h f.1 ≤ hz S z := by
    rcases hlow f.1 (by omega) with w | ⟨w1, w2⟩
    · exact w
    · exfalso
      have ey : (S.pt f.1).y = z.y := by omega
      have lx := w2 ey
      unfold turn dx dy at pf
      have : 0 < (((S.pt f.2).y : Int) - ((S.pt f.1).y : Int)) * (((S.pt f.1).x : Int) - (z.x : Int)) := Int.mul_pos (by omega) (by omega)
      have ey' : ((S.pt f.1).y : Int) = (z.y : Int) := by omega
      grind
  rcases hlow e.1 (by omega) with w | ⟨w1, w2⟩
  · exact no (hz S z) w f1 he2 hf2 (by grind)
  · have ey : (S.pt e.1).y = z.y := by omega
    have lx := w2 ey
    have tf : turn (S.pt f.1) (S.pt f.2) (S.pt e.1) < 0 := by
      unfold turn dx dy at pf ⊢
      rw [ey]
      have : 0 < (((S.pt f.2).y : Int) - ((S.pt f.1).y : Int)) * (((S.pt e.1).x : Int) - (z.x : Int)) := Int.mul_pos (by omega) (by omega)
      grind
    have tf2 := (turn_left O hf (S.pt e.1)).2.mp tf
    have eq1 : hz S (S.pt e.1) = (geoOf S).h e.1 := rfl
    rw [eq1] at tf2
    have ale := Geo.at_low (G := geoOf S) e
    have ale2 : (geoOf S).at_ e ((geoOf S).h e.1) = ((((S.pt e.1).x : Int)) : Rat) := ale
    have lte := O.ok.hline he
    have h3 : (geoOf S).h f.1 ≤ (geoOf S).h e.1 := by
      have : ¬ (geoOf S).h e.1 ≤ hz S z ∨ (geoOf S).h e.1 ≤ hz S z := by grind
      rcases this with w | w
      · grind
      · -- then e begins at z's height or below: z's own height is the greater
        have q : (S.w + 1) * (S.pt e.1).y + (S.pt e.1).x ≤ (S.w + 1) * z.y + z.x := by
          have w' : ((((S.w + 1) * (S.pt e.1).y + (S.pt e.1).x : Nat) : Int) : Rat) ≤ ((((S.w + 1) * z.y + z.x : Nat) : Int) : Rat) := w
          exact_mod_cast w'
        rw [ey] at q
        omega
    have h4 : (geoOf S).h e.1 ≤ (geoOf S).h f.2 := by
      have : (geoOf S).h e.1 ≤ (geoOf S).h t := (O.ok.hle (i := e.1) (j := t) (by show e.1 < S.pts.length; omega) (by show t < S.pts.length; omega)).mpr ce.1
      grind
    exact no ((geoOf S).h e.1) (by grind) h3 (by grind) h4 (by rw [ale2]; exact tf2)
/-- **a point within the frame on no line lies left of one way up, and all that flows right of it is what is left of that way** -/
theorem left_way (O : Good S) (F : Frame S a b c d) {z : Pt} (I : Inn S z) : ∃ e ∈ S.lines, lft S z e ∧ ∀ m, Geo.Circ (geoOf S) m → sm S.lines (fun f => if lft S z f then m f else 0) = Geo.W (geoOf S) m e.1 e.2 := by
  obtain ⟨t, ht, hl⟩ := level_of O F I
  have il : ∀ f ∈ S.lines, lft S z f ↔ Geo.cr f t ∧ 0 < turn (S.pt f.1) (S.pt f.2) z := by
    intro f hf
    have j := O.line_lt hf
    have h1 := hl f.1 (by omega)
    have h2 := hl f.2 (by omega)
    unfold lft Geo.cr
    constructor
    · rintro ⟨⟨w1, w2⟩, w3⟩
      exact ⟨⟨by omega, by omega⟩, w3⟩
    · rintro ⟨⟨w1, w2⟩, w3⟩
      exact ⟨⟨by omega, by omega⟩, w3⟩
  have sums : ∀ m : Nat × Nat → Int, sm S.lines (fun f => if lft S z f then m f else 0) = sm S.lines (fun f => if Geo.cr f t ∧ 0 < turn (S.pt f.1) (S.pt f.2) z then m f else 0) := by
    intro m
    refine sm_congr fun f hf => ?_
    by_cases q : lft S z f
    · rw [if_pos q, if_pos ((il f hf).mp q)]
    · rw [if_neg q, if_neg fun w => q ((il f hf).mpr w)]
  have some : ∃ e ∈ (geoOf S).L, Geo.cr e t ∧ 0 < turn (S.pt e.1) (S.pt e.2) z := by
    false_or_by_contra
    rename_i no
    have q := ring_psd O F I
    rw [← Geo.fl_sum O.ok (ring_adj O F) (g := psd S z) (fun a b => psd_anti S z a b)] at q
    have : sm (geoOf S).L (fun f => Geo.fl (ring S) f * psd S z f) = 0 := by
      refine sm_zero_of fun f hf => ?_
      have j := O.line_lt hf
      have n1 : ¬ lft S z f := fun w => no ⟨f, hf, ((il f hf).mp w)⟩
      have n2 : ¬ lft S z (f.2, f.1) := by
        rintro ⟨⟨w1, w2⟩, _⟩
        dsimp only at w1 w2
        have := O.pbelow j.1 j.2
        omega
      unfold psd
      rw [if_neg n1, if_neg n2]
      simp
    omega
  obtain ⟨e, he, ce, pe, hm⟩ := Geo.first_right (G := geoOf S) (t := t) (P := fun f => 0 < turn (S.pt f.1) (S.pt f.2) z) (left_up O F I ht hl) some
  refine ⟨e, he, (il e he).mpr ⟨ce, pe⟩, fun m C => ?_⟩
  rw [sums]
  refine (hm m).trans ?_
  have j := O.line_lt he
  unfold Geo.W
  rw [if_pos j.1]
  exact Geo.A_any O.ok C he ce ⟨Nat.le_refl _, j.1⟩
theorem psd_sum (O : Good S) {ds : List (Nat × Nat)} (hd : ∀ d ∈ ds, Geo.adj (geoOf S) d.1 d.2) (z : Pt) : sm ds (psd S z) = sm S.lines (fun f => if lft S z f then Geo.fl ds f else 0) := by
  rw [← Geo.fl_sum O.ok hd (g := psd S z) (fun a b => psd_anti S z a b)]
  refine sm_congr fun f hf => ?_
  have j := O.line_lt hf
  have n2 : ¬ lft S z (f.2, f.1) := by
    rintro ⟨⟨w1, w2⟩, _⟩
    dsimp only at w1 w2
    have := O.pbelow j.1 j.2
    omega
  unfold psd
  rw [if_neg n2]
  split <;> simp
/-- an outline's area -/
def ar (S : Plan) (d : Nat × Nat) : Int := ((S.pt d.1).x : Int) * ((S.pt d.2).y : Int) - ((S.pt d.2).x : Int) * ((S.pt d.1).y : Int)
theorem orbs (O : Good S) (np : 0 < S.pts.length) {s : Nat × Nat} {k : Nat} (R : Geo.Orb (geoOf S) S.next s k) {z : Pt} (I : Inn S z) : sm (Geo.orb S.next s k) (psd S z) = -1 ∨ sm (Geo.orb S.next s k) (psd S z) = 0 ∨ sm (Geo.orb S.next s k) (psd S z) = 1 := by
  obtain ⟨a, b, c, d, F⟩ := O.frame
  obtain ⟨o, ho⟩ := O.outer np
  obtain ⟨e, he, le, hm⟩ := left_way O F I
  have C := Geo.orb_circ O.ok O.nxs R
  rw [psd_sum O (Geo.orb_adj O.nxs R.adj), hm _ C, Geo.W_orb O.ok O.nxs O.conn ho R (.inl he)]
  have nd := Geo.orb_nodup O.ok O.nxs R
  rw [Geo.cnt_one nd, Geo.cnt_one nd]
  split <;> split <;> omega
/-- **a point within the frame on no line is within the outline of the way left of which it is, and that outline's area is above 0** -/
theorem inside (O : Good S) (np : 0 < S.pts.length) {z : Pt} (I : Inn S z) : ∃ e ∈ S.lines, ∀ k s, Geo.Orb (geoOf S) S.next s k → e ∈ Geo.orb S.next s k → sm (Geo.orb S.next s k) (psd S z) = 1 ∧ 0 < sm (Geo.orb S.next s k) (ar S) := by
  obtain ⟨a, b, c, d, F⟩ := O.frame
  obtain ⟨o, ho⟩ := O.outer np
  obtain ⟨e, he, le, hm⟩ := left_way O F I
  refine ⟨e, he, fun k s R hin => ?_⟩
  have C := Geo.orb_circ O.ok O.nxs R
  have nd := Geo.orb_nodup O.ok O.nxs R
  have RC := ring_circ O F
  -- the outer way is not in this outline
  have no : ¬ (0, o) ∈ Geo.orb S.next s k := by
    intro w
    obtain ⟨i, _, hi⟩ := Geo.orb_mem.mp hin
    obtain ⟨j, _, hj⟩ := Geo.orb_mem.mp w
    have e1 := Geo.W_it O.ok O.nxs RC R.adj i
    have e2 := Geo.W_it O.ok O.nxs RC R.adj j
    rw [hi] at e1
    rw [hj] at e2
    have e3 := Geo.W_outer O.ok RC ho
    have e4 := hm _ RC
    rw [← psd_sum O (ring_adj O F), ring_psd O F I] at e4
    dsimp only at e2
    omega
  have Wd : ∀ v y, Geo.adj (geoOf S) v y → Geo.W (geoOf S) (Geo.fl (Geo.orb S.next s k)) v y = if (v, y) ∈ Geo.orb S.next s k then 1 else 0 := by
    intro v y hv
    rw [Geo.W_orb O.ok O.nxs O.conn ho R hv, Geo.cnt_one nd, Geo.cnt_one nd, if_neg no]
    omega
  have Ad : ∀ t, ∀ f ∈ S.lines, Geo.cr f t → Geo.A (geoOf S) (Geo.fl (Geo.orb S.next s k)) t f = if f ∈ Geo.orb S.next s k then 1 else 0 := by
    intro t f hf cf
    have j := O.line_lt hf
    have := Wd f.1 f.2 (.inl hf)
    unfold Geo.W at this
    rw [if_pos j.1] at this
    rw [← this]
    exact Geo.A_any O.ok C hf cf ⟨Nat.le_refl _, j.1⟩
  constructor
  · rw [psd_sum O (Geo.orb_adj O.nxs R.adj), hm _ C, Wd _ _ (.inl he), if_pos hin]
  · have j := O.line_lt he
    have pos := Geo.area_pos O.ok C (fun t f hf cf => by rw [Ad t f hf cf]; split <;> omega) ⟨e.1, e, he, ⟨Nat.le_refl _, j.1⟩, by rw [Ad e.1 e he ⟨Nat.le_refl _, j.1⟩, if_pos hin]; omega⟩
    have eq : smr (geoOf S).L (fun f => (Geo.fl (Geo.orb S.next s k) f : Rat) * ((geoOf S).x f.1 * (geoOf S).h f.2 - (geoOf S).x f.2 * (geoOf S).h f.1)) = (((S.w + 1 : Nat) : Int) : Rat) * ((sm (Geo.orb S.next s k) (ar S) : Int) : Rat) := by
      rw [← Geo.fl_sum O.ok (Geo.orb_adj O.nxs R.adj) (g := ar S) (fun a b => by unfold ar; dsimp only; omega), sm_cast, ← smr_mul]
      refine smr_congr fun f _ => ?_
      unfold geoOf ar
      dsimp only
      simp only [← Rat.intCast_sub, ← Rat.intCast_mul]
      congr 1
      push_cast
      grind
    rw [eq] at pos
    have w := mul_sign (p := ((sm (Geo.orb S.next s k) (ar S) : Int) : Rat)) (wpos S)
    exact cast_sign.1.mp (w.1.mp pos)
end
end Lead
namespace Lead
open GlaBase GlaPlan
theorem nodup_len {α : Type} [BEq α] [LawfulBEq α] : ∀ {l w : List α}, l.Nodup → (∀ a ∈ l, a ∈ w) → l.length ≤ w.length
  | [], w, _, _ => by simp
  | a :: r, w, nd, h => by
    obtain ⟨n1, n2⟩ := List.nodup_cons.mp nd
    have ha := h a (by simp)
    have := nodup_len (l := r) (w := w.erase a) n2 fun b hb => (List.mem_erase_of_ne (by rintro rfl; exact n1 hb)).mpr (h b (by simp [hb]))
    rw [List.length_erase_of_mem ha] at this
    have := List.length_pos_of_mem ha
    simp only [List.length_cons]
    omega
theorem least_nat {P : Nat → Prop} : ∀ n, P n → ∃ k, k ≤ n ∧ P k ∧ ∀ i, i < k → ¬ P i := by
  intro n
  induction n using Nat.strongRecOn with
  | _ n ih =>
    intro h
    by_cases c : ∃ i, i < n ∧ P i
    · obtain ⟨i, hi, pi⟩ := c
      obtain ⟨k, k1, k2, k3⟩ := ih i hi pi
      exact ⟨k, by omega, k2, k3⟩
    · exact ⟨n, Nat.le_refl _, h, fun i hi pi => c ⟨i, hi, pi⟩⟩
theorem mem_ways {S : Plan} {d : Nat × Nat} : d ∈ ways S ↔ Geo.adj (geoOf S) d.1 d.2 := by
  unfold ways Geo.adj
  rw [List.mem_flatMap]
  constructor
  · rintro ⟨l, hl, h⟩
    rcases List.mem_cons.mp h with rfl | h
    · exact .inl hl
    · rw [List.mem_singleton.mp h]
      exact .inr hl
  · rintro (h | h)
    · exact ⟨d, h, by simp⟩
    · exact ⟨(d.2, d.1), h, by simp⟩
theorem ways_len (S : Plan) : (ways S).length = 2 * S.lines.length := by
  unfold ways
  induction S.lines with
  | nil => rfl
  | cons l r ih =>
    simp only [List.flatMap_cons, List.length_append, List.length_cons, List.length_nil] at ih ⊢
    omega
section
variable {S : Plan}
/-- each way lies on an outline -/
theorem Good.orb (O : Good S) {s : Nat × Nat} (hs : Geo.adj (geoOf S) s.1 s.2) : ∃ k, k ≤ 2 * S.lines.length ∧ Geo.Orb (geoOf S) S.next s k := by
  have ex : ∃ k, k ≤ 2 * S.lines.length ∧ (0 < k ∧ Geo.it S.next k s = s) := by
    false_or_by_contra
    rename_i no
    have nd : ((List.range (2 * S.lines.length + 1)).map fun i => Geo.it S.next i s).Nodup := by
      rw [List.nodup_iff_pairwise_ne, List.pairwise_map]
      refine List.Pairwise.imp_of_mem (R := fun a b => a < b) ?_ List.pairwise_lt_range
      intro a b ha hb lt z
      have hb := List.mem_range.mp hb
      rw [show b = a + (b - a) by omega, Geo.it_add] at z
      exact no ⟨b - a, by omega, by omega, (Geo.it_inj O.ok O.nxs hs (Geo.it_adj O.nxs hs _) z).symm⟩
    have := nodup_len nd (w := ways S) (by
      intro d hd
      rw [List.mem_map] at hd
      obtain ⟨i, _, rfl⟩ := hd
      exact mem_ways.mpr (Geo.it_adj O.nxs hs i))
    rw [List.length_map, List.length_range, ways_len] at this
    omega
  obtain ⟨n, n1, n2⟩ := ex
  obtain ⟨k, k1, k2, k3⟩ := least_nat (P := fun k => 0 < k ∧ Geo.it S.next k s = s) n n2
  exact ⟨k, by omega, k2.1, hs, k2.2, fun i i0 ik z => k3 i ik ⟨i0, z⟩⟩
/-- the ends of pairs, one behind the other, closed by c -/
def pz : List Nat → Nat → List (Nat × Nat)
  | [], _ => []
  | [x], c => [(x, c)]
  | x :: y :: r, c => (x, y) :: pz (y :: r) c
theorem pz_zip : ∀ (l : List Nat) (c : Nat), l.zip (l.drop 1 ++ [c]) = pz l c
  | [], c => rfl
  | [x], c => rfl
  | x :: y :: r, c => by
    have := pz_zip (y :: r) c
    simp only [List.drop_succ_cons, List.drop_zero, List.cons_append, List.zip_cons_cons, pz] at this ⊢
    rw [this]
/-- the pairs of a round -/
def sides (l : List Nat) : List (Nat × Nat) := l.zip (l.drop 1 ++ l.take 1)
theorem sides_pz (x : Nat) (r : List Nat) : sides (x :: r) = pz (x :: r) x := by
  unfold sides
  rw [← pz_zip]
  rfl
theorem pz_app : ∀ (l : List Nat) (y : Nat) (r : List Nat) (c : Nat), pz (l ++ y :: r) c = pz l y ++ pz (y :: r) c
  | [], y, r, c => rfl
  | [x], y, r, c => rfl
  | x :: z :: l, y, r, c => by
    have := pz_app (z :: l) y r c
    simp only [List.cons_append, pz] at this ⊢
    rw [this]
theorem sides_turn (l k : List Nat) : (sides (l ++ k)).Perm (sides (k ++ l)) := by
  cases l with
  | nil => simp
  | cons x l =>
    cases k with
    | nil => simp
    | cons y k =>
      rw [show x :: l ++ y :: k = x :: (l ++ y :: k) from rfl, show y :: k ++ x :: l = y :: (k ++ x :: l) from rfl, sides_pz, sides_pz]
      rw [show x :: (l ++ y :: k) = (x :: l) ++ y :: k from rfl, show y :: (k ++ x :: l) = (y :: k) ++ x :: l from rfl, pz_app, pz_app]
      exact List.perm_append_comm
theorem fromLeast_turn (l : List Nat) : ∃ i, fromLeast l = l.drop i ++ l.take i := by
  cases l with
  | nil => exact ⟨0, rfl⟩
  | cons a r => exact ⟨_, rfl⟩
theorem sides_least (l : List Nat) : (sides (fromLeast l)).Perm (sides l) := by
  obtain ⟨i, h⟩ := fromLeast_turn l
  rw [h]
  have := sides_turn (l.drop i) (l.take i)
  rwa [List.take_append_drop] at this
/-- an outline by its points -/
def rd (S : Plan) (d : Nat × Nat) : List Nat := S.round (2 * S.lines.length + 1) d d
theorem it_step (nx : Nat → Nat → Nat) (j : Nat) (s : Nat × Nat) : (Geo.it nx j s).2 = (Geo.it nx (j + 1) s).1 := by
  rw [Geo.it_succ]
  rfl
theorem round_eq {s : Nat × Nat} : ∀ (n j fuel : Nat), n < fuel → Geo.it S.next (j + (n + 1)) s = s → (∀ i, j < i → i < j + (n + 1) → Geo.it S.next i s ≠ s) → S.round fuel s (Geo.it S.next j s) = (List.range' j (n + 1)).map fun i => (Geo.it S.next i s).1
  | n, j, 0, h, _, _ => by omega
  | 0, j, fuel + 1, h, h1, h2 => by
    unfold Plan.round
    have e : ((Geo.it S.next j s).2, S.next (Geo.it S.next j s).1 (Geo.it S.next j s).2) = Geo.it S.next (j + 1) s := by
      rw [Geo.it_succ]
      rfl
    simp only [e]
    rw [if_pos h1]
    rfl
  | n + 1, j, fuel + 1, h, h1, h2 => by
    unfold Plan.round
    have e : ((Geo.it S.next j s).2, S.next (Geo.it S.next j s).1 (Geo.it S.next j s).2) = Geo.it S.next (j + 1) s := by
      rw [Geo.it_succ]
      rfl
    simp only [e]
    rw [if_neg (h2 (j + 1) (by omega) (by omega))]
    have ih := round_eq n (j + 1) fuel (by omega) (by rw [show j + 1 + (n + 1) = j + (n + 1 + 1) by omega]; exact h1) (fun i i1 i2 => h2 i (by omega) (by omega))
    rw [ih]
    rfl
theorem rd_eq {s : Nat × Nat} {k : Nat} (R : Geo.Orb (geoOf S) S.next s k) (hk : k ≤ 2 * S.lines.length) : rd S s = (Geo.orb S.next s k).map fun d => d.1 := by
  have p := R.pos
  have b := R.back
  have := round_eq (S := S) (s := s) (k - 1) 0 (2 * S.lines.length + 1) (by omega) (by rw [show 0 + (k - 1 + 1) = k by omega]; exact b) (fun i i1 i2 => R.first i i1 (by omega))
  rw [show k - 1 + 1 = k by omega] at this
  unfold rd Geo.orb
  rw [List.map_map, List.range_eq_range']
  exact this
theorem pz_it (nx : Nat → Nat → Nat) (s : Nat × Nat) : ∀ (n j : Nat), pz ((List.range' j (n + 1)).map fun i => (Geo.it nx i s).1) (Geo.it nx (j + (n + 1)) s).1 = (List.range' j (n + 1)).map fun i => Geo.it nx i s
  | 0, j => by
    show [((Geo.it nx j s).1, (Geo.it nx (j + 1) s).1)] = [Geo.it nx j s]
    rw [← it_step]
  | n + 1, j => by
    have ih := pz_it nx s n (j + 1)
    rw [show j + 1 + (n + 1) = j + (n + 1 + 1) by omega] at ih
    show ((Geo.it nx j s).1, (Geo.it nx (j + 1) s).1) :: pz ((List.range' (j + 1) (n + 1)).map fun i => (Geo.it nx i s).1) (Geo.it nx (j + (n + 1 + 1)) s).1 = Geo.it nx j s :: (List.range' (j + 1) (n + 1)).map fun i => Geo.it nx i s
    rw [ih, ← it_step]
/-- the sides of an outline are its ways -/
theorem sides_rd {s : Nat × Nat} {k : Nat} (R : Geo.Orb (geoOf S) S.next s k) (hk : k ≤ 2 * S.lines.length) : sides (rd S s) = Geo.orb S.next s k := by
  have p := R.pos
  have b := R.back
  rw [rd_eq R hk]
  unfold Geo.orb
  rw [List.map_map, List.range_eq_range']
  have q := pz_it S.next s (k - 1) 0
  rw [show 0 + (k - 1 + 1) = k by omega, show k - 1 + 1 = k by omega, b] at q
  rw [← q]
  obtain ⟨n, rfl⟩ : ∃ n, k = n + 1 := ⟨k - 1, by omega⟩
  show sides ((Geo.it S.next 0 s).1 :: (List.range' 1 n).map fun i => (Geo.it S.next i s).1) = pz ((Geo.it S.next 0 s).1 :: (List.range' 1 n).map fun i => (Geo.it S.next i s).1) s.1
  rw [sides_pz]
  rfl
/-- an outline begun at another of its ways -/
theorem orb_turn {nx : Nat → Nat → Nat} {s : Nat × Nat} {k : Nat} (b : Geo.it nx k s = s) {j : Nat} (hj : j ≤ k) : Geo.orb nx (Geo.it nx j s) k = (Geo.orb nx s k).drop j ++ (Geo.orb nx s k).take j := by
  refine List.ext_getElem (by unfold Geo.orb; simp; omega) fun i h1 h2 => ?_
  have hi : i < k := by
    unfold Geo.orb at h1
    simpa using h1
  have l : ∀ i, i < k → (Geo.orb nx s k)[i]? = some (Geo.it nx i s) := by
    intro i hi
    unfold Geo.orb
    rw [List.getElem?_map, List.getElem?_range hi]
    rfl
  have len : (Geo.orb nx s k).length = k := by unfold Geo.orb; simp
  apply Option.some.inj
  rw [← List.getElem?_eq_getElem, ← List.getElem?_eq_getElem]
  have e1 : (Geo.orb nx (Geo.it nx j s) k)[i]? = some (Geo.it nx (i + j) s) := by
    unfold Geo.orb
    rw [List.getElem?_map, List.getElem?_range hi, Geo.it_add]
    rfl
  rw [e1]
  by_cases c : i < k - j
  · rw [List.getElem?_append_left (by rw [List.length_drop, len]; exact c), List.getElem?_drop, l _ (by omega)]
    congr 2
    omega
  · rw [List.getElem?_append_right (by rw [List.length_drop, len]; omega), List.length_drop, len, List.getElem?_take, if_pos (by omega), l _ (by omega)]
    rw [show i + j = (i - (k - j)) + k by omega, Geo.it_add, b]
theorem orb_at {s : Nat × Nat} {k : Nat} (O : Good S) (R : Geo.Orb (geoOf S) S.next s k) {j : Nat} (hj : j ≤ k) : Geo.Orb (geoOf S) S.next (Geo.it S.next j s) k where
  pos := R.pos
  adj := Geo.it_adj O.nxs R.adj j
  back := by rw [← Geo.it_add, Nat.add_comm, Geo.it_add, R.back]
  first := by
    intro i i0 ik z
    rw [← Geo.it_add, Nat.add_comm, Geo.it_add] at z
    exact R.first i i0 ik (Geo.it_inj O.ok O.nxs (Geo.it_adj O.nxs R.adj i) R.adj z)
theorem foldl_min_mem : ∀ (r : List Nat) (a : Nat), r.foldl min a ∈ a :: r ∧ ∀ x ∈ a :: r, r.foldl min a ≤ x
  | [], a => by simp
  | b :: r, a => by
    have ih := foldl_min_mem r (min a b)
    rw [List.foldl_cons]
    constructor
    · rcases List.mem_cons.mp ih.1 with h | h
      · rw [h]
        rcases Nat.le_total a b with q | q
        · rw [Nat.min_eq_left q]; simp
        · rw [Nat.min_eq_right q]; simp
      · simp [h]
    · intro x hx
      have h0 := ih.2 (min a b) (by simp)
      rcases List.mem_cons.mp hx with rfl | hx
      · omega
      · rcases List.mem_cons.mp hx with rfl | hx
        · omega
        · exact ih.2 x (by simp [hx])
/-- from the least number on: the outline begun at that way -/
theorem least_rd (O : Good S) {s : Nat × Nat} {k : Nat} (R : Geo.Orb (geoOf S) S.next s k) (hk : k ≤ 2 * S.lines.length) : ∃ j, j < k ∧ fromLeast (rd S s) = rd S (Geo.it S.next j s) ∧ ∀ d ∈ Geo.orb S.next s k, (Geo.it S.next j s).1 ≤ d.1 := by
  have p := R.pos
  have e := rd_eq R hk
  have len : (rd S s).length = k := by rw [e]; unfold Geo.orb; simp
  cases h : rd S s with
  | nil =>
    rw [h] at len
    simp at len
    omega
  | cons a r =>
    have fm := foldl_min_mem r a
    rw [← h] at fm
    have il := List.idxOf_lt_length_of_mem fm.1
    have ig := List.getElem_idxOf il
    refine ⟨(rd S s).idxOf (r.foldl min a), by omega, ?_, ?_⟩
    · have R2 := orb_at O R (j := (rd S s).idxOf (r.foldl min a)) (by omega)
      rw [rd_eq R2 hk, orb_turn R.back (by omega), List.map_append, List.map_drop, List.map_take, ← e, h]
      rfl
    · intro d hd
      have : (Geo.it S.next ((rd S s).idxOf (r.foldl min a)) s).1 = r.foldl min a := by
        have q : (rd S s)[(rd S s).idxOf (r.foldl min a)]? = some (r.foldl min a) := by rw [List.getElem?_eq_getElem il, ig]
        generalize (rd S s).idxOf (r.foldl min a) = m at q il
        rw [e] at q
        unfold Geo.orb at q
        rw [List.map_map, List.getElem?_map, List.getElem?_range (by omega)] at q
        exact Option.some.inj q
      rw [this]
      exact fm.2 d.1 (by rw [e]; exact List.mem_map.mpr ⟨d, hd, rfl⟩)
theorem Good.tails (O : Good S) {s : Nat × Nat} {k : Nat} (R : Geo.Orb (geoOf S) S.next s k) {d e : Nat × Nat} (hd : d ∈ Geo.orb S.next s k) (he : e ∈ Geo.orb S.next s k) (h : d.1 = e.1) : d = e := by
  obtain ⟨i, hi, rfl⟩ := Geo.orb_mem.mp hd
  obtain ⟨j, hj, rfl⟩ := Geo.orb_mem.mp he
  have R2 := orb_at O R (j := j) (by omega)
  -- it i s comes behind it j s
  have : ∃ m, Geo.it S.next m (Geo.it S.next j s) = Geo.it S.next i s := by
    refine ⟨i + (k - j), ?_⟩
    rw [← Geo.it_add, show i + (k - j) + j = i + k by omega, Geo.it_add, R.back]
  obtain ⟨m, hm⟩ := this
  rw [← hm] at h ⊢
  exact Geo.once O.ok O.nxs O.two R2.adj h
theorem orb_same (O : Good S) {s : Nat × Nat} {k : Nat} (R : Geo.Orb (geoOf S) S.next s k) {j : Nat} (hj : j ≤ k) {d : Nat × Nat} : d ∈ Geo.orb S.next (Geo.it S.next j s) k ↔ d ∈ Geo.orb S.next s k := by
  rw [orb_turn R.back hj, List.mem_append, Or.comm, ← List.mem_append, List.take_append_drop]
theorem orb_len_eq {s : Nat × Nat} {k k' : Nat} (R : Geo.Orb (geoOf S) S.next s k) (R' : Geo.Orb (geoOf S) S.next s k') : k = k' := by
  rcases Nat.lt_trichotomy k k' with h | h | h
  · exact absurd R.back (R'.first k R.pos h)
  · exact h
  · exact absurd R'.back (R.first k' R'.pos h)
/-- two ways have the same outline from its least number on: one is on the other's -/
theorem least_same (O : Good S) {s s' : Nat × Nat} {k k' : Nat} (R : Geo.Orb (geoOf S) S.next s k) (hk : k ≤ 2 * S.lines.length) (R' : Geo.Orb (geoOf S) S.next s' k') (hk' : k' ≤ 2 * S.lines.length) :
    fromLeast (rd S s) = fromLeast (rd S s') ↔ s' ∈ Geo.orb S.next s k := by
  obtain ⟨j, hj, ej, mj⟩ := least_rd O R hk
  obtain ⟨i, hi, ei, mi⟩ := least_rd O R' hk'
  have Rj := orb_at O R (j := j) (by omega)
  have Ri := orb_at O R' (j := i) (by omega)
  constructor
  · intro h
    rw [ej, ei] at h
    have e := congrArg sides h
    rw [sides_rd Rj hk, sides_rd Ri hk'] at e
    have : s' ∈ Geo.orb S.next (Geo.it S.next i s') k' := (orb_same O R' (by omega)).mpr (Geo.orb_mem.mpr ⟨0, R'.pos, rfl⟩)
    rw [← e] at this
    exact (orb_same O R (by omega)).mp this
  · intro h
    obtain ⟨m, hm, rfl⟩ := Geo.orb_mem.mp h
    have Rm := orb_at O R (j := m) (by omega)
    have kk := orb_len_eq R' Rm
    subst kk
    rw [ej, ei]
    have a1 : Geo.it S.next i (Geo.it S.next m s) ∈ Geo.orb S.next s k' := by
      refine (orb_same O R (j := m) (by omega)).mp ?_
      exact Geo.orb_mem.mpr ⟨i, hi, rfl⟩
    have a2 : Geo.it S.next j s ∈ Geo.orb S.next s k' := Geo.orb_mem.mpr ⟨j, hj, rfl⟩
    have b1 := mj _ a1
    have b2 := mi _ ((orb_same O R (j := m) (by omega)).mpr a2)
    rw [O.tails R a1 a2 (by omega)]
end
end Lead
namespace Lead
open GlaBase GlaPlan
/-- the program's search for outlines: a way that was met, or an outline -/
def oStep (S : Plan) (st : List (Nat × Nat) × List (List Nat)) (d : Nat × Nat) : List (Nat × Nat) × List (List Nat) :=
  if d ∈ st.1 then st else (st.1 ++ sides (rd S d), if 0 < twiceArea S (rd S d) then st.2 ++ [rd S d] else st.2)
def outl (S : Plan) : List (List Nat) := ((ways S).foldl (oStep S) ([], [])).2
theorem area_sm (S : Plan) (l : List Nat) : twiceArea S l = sm (sides l) (ar S) := by
  unfold twiceArea sides
  generalize l.zip (l.drop 1 ++ l.take 1) = k
  induction k with
  | nil => rfl
  | cons d k ih =>
    simp only [List.map_cons, List.foldr_cons, sm, ih]
    rfl
theorem area_least (S : Plan) (l : List Nat) : twiceArea S (fromLeast l) = twiceArea S l := by
  rw [area_sm, area_sm, sm_perm (sides_least l)]
theorem turn_back (p q z : Pt) : turn q p z = - turn p q z := by
  unfold turn dx dy
  grind
/-- a side is passed on the right of the point -/
def passes (S : Plan) (z : Pt) (x : Nat × Nat) : Bool :=
  (decide ((S.pt x.1).y ≤ z.y) && (decide (z.y < (S.pt x.2).y) && decide (0 < turn (S.pt x.1) (S.pt x.2) z))) || (decide ((S.pt x.2).y ≤ z.y) && (decide (z.y < (S.pt x.1).y) && decide (turn (S.pt x.1) (S.pt x.2) z < 0)))
theorem inside_passes (S : Plan) (l : List Nat) (z : Pt) : insideOf S l z = decide (((sides l).filter (passes S z)).length % 2 = 1) := rfl
theorem passes_psd (S : Plan) (z : Pt) (ds : List (Nat × Nat)) : ∃ k : Int, sm ds (psd S z) = ((ds.filter (passes S z)).length : Int) - 2 * k := by
  induction ds with
  | nil => exact ⟨0, rfl⟩
  | cons d ds ih =>
    obtain ⟨k, hk⟩ := ih
    have t := turn_back (S.pt d.1) (S.pt d.2) z
    simp only [sm]
    by_cases c1 : lft S z d
    · have n2 : ¬ lft S z (d.2, d.1) := by
        rintro ⟨⟨w1, w2⟩, w3⟩
        obtain ⟨⟨v1, v2⟩, v3⟩ := c1
        dsimp only at w1 w2
        omega
      have p : passes S z d = true := by
        obtain ⟨⟨v1, v2⟩, v3⟩ := c1
        unfold passes
        simp [v1, v2, v3]
      refine ⟨k, ?_⟩
      rw [List.filter_cons_of_pos p]
      simp only [List.length_cons]
      unfold psd
      rw [if_pos c1, if_neg n2]
      unfold psd at hk
      omega
    · by_cases c2 : lft S z (d.2, d.1)
      · have p : passes S z d = true := by
          obtain ⟨⟨v1, v2⟩, v3⟩ := c2
          dsimp only at v1 v2 v3
          have : turn (S.pt d.1) (S.pt d.2) z < 0 := by omega
          unfold passes
          simp [v1, v2, this]
        refine ⟨k + 1, ?_⟩
        rw [List.filter_cons_of_pos p]
        simp only [List.length_cons]
        unfold psd
        rw [if_neg c1, if_pos c2]
        unfold psd at hk
        omega
      · have p : passes S z d = false := by
          unfold passes
          rw [Bool.or_eq_false_iff]
          constructor
          · rw [Bool.eq_false_iff]
            intro w
            simp only [Bool.and_eq_true, decide_eq_true_eq] at w
            exact c1 ⟨⟨w.1, w.2.1⟩, w.2.2⟩
          · rw [Bool.eq_false_iff]
            intro w
            simp only [Bool.and_eq_true, decide_eq_true_eq] at w
            exact c2 ⟨⟨w.1, w.2.1⟩, by dsimp only; omega⟩
        refine ⟨k, ?_⟩
        rw [List.filter_cons_of_neg (by simp [p])]
        unfold psd
        rw [if_neg c1, if_neg c2]
        unfold psd at hk
        omega
theorem inside_least (S : Plan) (l : List Nat) (z : Pt) : insideOf S (fromLeast l) z = insideOf S l z := by
  rw [inside_passes, inside_passes, ((sides_least l).filter _).length_eq]
/-- the program's word: the rounds are not 0 -/
def isIn (S : Plan) (l : List Nat) (z : Pt) : Bool := decide (sm (sides l) (psd S z) ≠ 0)
section
variable {S : Plan}
theorem inside_isIn (O : Good S) (np : 0 < S.pts.length) {d : Nat × Nat} (hd : Geo.adj (geoOf S) d.1 d.2) {z : Pt} (I : Inn S z) : insideOf S (rd S d) z = isIn S (rd S d) z := by
  obtain ⟨k, hk, R⟩ := O.orb hd
  have three := orbs O np R I
  rw [inside_passes]
  unfold isIn
  rw [sides_rd R hk]
  obtain ⟨m, hm⟩ := passes_psd S z (Geo.orb S.next d k)
  rw [hm] at three ⊢
  by_cases c : (((Geo.orb S.next d k).filter (passes S z)).length) % 2 = 1
  · rw [decide_eq_true c, decide_eq_true]
    omega
  · rw [decide_eq_false c, decide_eq_false]
    omega
/-- those not seen, once each -/
def fresh (seen l : List (List Nat)) : List (List Nat) := (l.filter fun x => !seen.contains x).eraseDups
theorem fresh_seen {seen l : List (List Nat)} {x : List Nat} (h : x ∈ seen) : fresh seen (x :: l) = fresh seen l := by
  unfold fresh
  rw [List.filter_cons_of_neg (by simp [h])]
theorem fresh_new {seen l : List (List Nat)} {x : List Nat} (h : ¬ x ∈ seen) : fresh seen (x :: l) = x :: fresh (x :: seen) l := by
  unfold fresh
  rw [List.filter_cons_of_pos (by simp [h]), List.eraseDups_cons, List.filter_filter]
  congr 3
  funext y
  by_cases c : y = x
  · subst c
    simp
  · simp [c]
theorem outl_run (O : Good S) : ∀ (w : List (Nat × Nat)), (∀ d ∈ w, Geo.adj (geoOf S) d.1 d.2) → ∀ (met : List (Nat × Nat)) (found seen : List (List Nat)), (∀ d, Geo.adj (geoOf S) d.1 d.2 → (d ∈ met ↔ fromLeast (rd S d) ∈ seen)) →
    ((w.foldl (oStep S) (met, found)).2).map fromLeast = found.map fromLeast ++ (fresh seen (w.map fun d => fromLeast (rd S d))).filter fun l => decide (0 < twiceArea S l)
  | [], _, met, found, seen, _ => by simp [fresh]
  | d :: w, hw, met, found, seen, inv => by
    have hd := hw d (by simp)
    rw [List.foldl_cons, List.map_cons]
    by_cases c : d ∈ met
    · have e : oStep S (met, found) d = (met, found) := by
        unfold oStep
        rw [if_pos c]
      rw [e, fresh_seen ((inv d hd).mp c)]
      exact outl_run O w (fun x hx => hw x (by simp [hx])) met found seen inv
    · have e : oStep S (met, found) d = (met ++ sides (rd S d), if 0 < twiceArea S (rd S d) then found ++ [rd S d] else found) := by
        unfold oStep
        rw [if_neg c]
      rw [e, fresh_new fun z => c ((inv d hd).mpr z)]
      have ih := outl_run O w (fun x hx => hw x (by simp [hx])) (met ++ sides (rd S d)) (if 0 < twiceArea S (rd S d) then found ++ [rd S d] else found) (fromLeast (rd S d) :: seen) (by
        intro x hx
        obtain ⟨k, hk, R⟩ := O.orb hd
        obtain ⟨k', hk', R'⟩ := O.orb hx
        rw [List.mem_append, inv x hx, sides_rd R hk, ← least_same O R hk R' hk', List.mem_cons, Or.comm]
        constructor
        · rintro (h | h)
          · exact .inl h.symm
          · exact .inr h
        · rintro (h | h)
          · exact .inl h.symm
          · exact .inr h)
      rw [ih]
      by_cases a : 0 < twiceArea S (rd S d)
      · rw [if_pos a, List.filter_cons_of_pos (by rw [area_least]; simp [a])]
        simp
      · rw [if_neg a, List.filter_cons_of_neg (by rw [area_least]; simp [a])]
/-- **the outlines found are the specification's** -/
theorem outl_eq (O : Good S) : (outl S).map fromLeast = S.outlines := by
  have := outl_run O (ways S) (fun d hd => mem_ways.mp hd) [] [] [] (by simp)
  unfold outl
  rw [this]
  unfold Plan.outlines fresh
  have ft : ∀ l : List (List Nat), l.filter (fun x => !([] : List (List Nat)).contains x) = l := fun l => List.filter_eq_self.mpr (by simp)
  rw [ft]
  rfl
theorem outl_mem (O : Good S) : ∀ l ∈ outl S, ∃ d, Geo.adj (geoOf S) d.1 d.2 ∧ l = rd S d := by
  have key : ∀ (w : List (Nat × Nat)), (∀ d ∈ w, Geo.adj (geoOf S) d.1 d.2) → ∀ (st : List (Nat × Nat) × List (List Nat)), (∀ l ∈ st.2, ∃ d, Geo.adj (geoOf S) d.1 d.2 ∧ l = rd S d) → ∀ l ∈ (w.foldl (oStep S) st).2, ∃ d, Geo.adj (geoOf S) d.1 d.2 ∧ l = rd S d := by
    intro w
    induction w with
    | nil => intro _ st h; exact h
    | cons d w ih =>
      intro hw st h
      rw [List.foldl_cons]
      refine ih (fun x hx => hw x (by simp [hx])) _ ?_
      unfold oStep
      split
      · exact h
      · dsimp only
        split
        · intro l hl
          rcases List.mem_append.mp hl with q | q
          · exact h l q
          · exact ⟨d, hw d (by simp), List.mem_singleton.mp q⟩
        · exact h
  exact key (ways S) (fun d hd => mem_ways.mp hd) _ (by simp)
theorem fresh_nodup : ∀ (l seen : List (List Nat)), (fresh seen l).Nodup ∧ ∀ x ∈ fresh seen l, ¬ x ∈ seen
  | [], seen => by simp [fresh]
  | x :: l, seen => by
    by_cases c : x ∈ seen
    · rw [fresh_seen c]
      exact fresh_nodup l seen
    · rw [fresh_new c]
      have ih := fresh_nodup l (x :: seen)
      refine ⟨List.nodup_cons.mpr ⟨fun h => ih.2 x h (by simp), ih.1⟩, fun y hy => ?_⟩
      rcases List.mem_cons.mp hy with rfl | hy
      · exact c
      · exact fun h => ih.2 y hy (by simp [h])
theorem outlines_nodup (S : Plan) : S.outlines.Nodup := by
  unfold Plan.outlines
  have := (fresh_nodup ((ways S).map fun e => fromLeast (S.round (2 * S.lines.length + 1) e e)) []).1
  unfold fresh at this
  have ft : ∀ l : List (List Nat), l.filter (fun x => !([] : List (List Nat)).contains x) = l := fun l => List.filter_eq_self.mpr (by simp)
  rw [ft] at this
  exact this.sublist List.filter_sublist
/-- in which outline a point lies -/
def pane (S : Plan) (z : Pt) : Option Nat := (outl S).findIdx? fun l => isIn S l z
theorem among_pane (O : Good S) (np : 0 < S.pts.length) {z : Pt} (h : clear S z = true) : S.among S.outlines z = (pane S z).map fun i => S.outlines.getD i [] := by
  unfold Plan.among pane
  rw [if_pos h, ← outl_eq O]
  have I := inn_of_clear h
  have key : ∀ (l : List (List Nat)), (∀ x ∈ l, ∃ d, Geo.adj (geoOf S) d.1 d.2 ∧ x = rd S d) → (l.map fromLeast).find? (fun x => insideOf S x z) = (l.findIdx? fun x => isIn S x z).map fun i => (l.map fromLeast).getD i [] := by
    intro l
    induction l with
    | nil => intro _; rfl
    | cons x l ih =>
      intro hl
      obtain ⟨d, hd, rfl⟩ := hl x (by simp)
      have e := inside_isIn O np hd I
      rw [List.map_cons, List.find?_cons, List.findIdx?_cons, inside_least, e]
      cases q : isIn S (rd S d) z with
      | true => rfl
      | false =>
        simp only [Bool.false_eq_true, if_false]
        rw [ih fun y hy => hl y (by simp [hy]), Option.map_map]
        rfl
  exact key _ (outl_mem O)
theorem pane_some (O : Good S) (np : 0 < S.pts.length) {z : Pt} (h : clear S z = true) : ∃ i, i < (outl S).length ∧ pane S z = some i := by
  have I := inn_of_clear h
  obtain ⟨e, he, hi⟩ := inside O np I
  obtain ⟨k, hk, R⟩ := O.orb (s := e) (.inl he)
  obtain ⟨h1, h2⟩ := hi k e R (Geo.orb_mem.mpr ⟨0, R.pos, rfl⟩)
  have m1 : fromLeast (rd S e) ∈ S.outlines := by
    unfold Plan.outlines
    rw [List.mem_filter, List.mem_eraseDups]
    refine ⟨List.mem_map.mpr ⟨e, mem_ways.mpr (.inl he), rfl⟩, ?_⟩
    rw [area_least, area_sm, sides_rd R hk]
    exact decide_eq_true h2
  have m2 : insideOf S (fromLeast (rd S e)) z = true := by
    rw [inside_least, inside_isIn O np (.inl he) I]
    unfold isIn
    rw [sides_rd R hk, h1]
    rfl
  have ap := among_pane O np h
  cases q : pane S z with
  | none =>
    exfalso
    rw [q] at ap
    unfold Plan.among at ap
    rw [if_pos h] at ap
    have := List.find?_eq_none.mp ap _ m1
    exact this m2
  | some i =>
    refine ⟨i, ?_, rfl⟩
    unfold pane at q
    have := (List.findIdx?_eq_some_iff_getElem.mp q)
    exact this.1
/-- the program's search for a pane met twice -/
def pTwice (S : Plan) : Nat → List (Option Nat) → List Mark → Option Nat
  | _, _, [] => none
  | i, had, m :: r => if pane S m.at_ ∈ had then some i else pTwice S (i + 1) (pane S m.at_ :: had) r
theorem twice_eq (O : Good S) (np : 0 < S.pts.length) : ∀ (ms : List Mark), (∀ m ∈ ms, clear S m.at_ = true) → ∀ (i : Nat) (had : List (Option Nat)), (∀ o ∈ had, ∃ j, j < (outl S).length ∧ o = some j) →
    twice S S.outlines i (had.map fun o => o.map fun i => S.outlines.getD i []) ms = pTwice S i had ms
  | [], _, _, _, _ => rfl
  | m :: ms, hc, i, had, hh => by
    have h := hc m (by simp)
    obtain ⟨j, hj, ej⟩ := pane_some O np h
    have ap := among_pane O np h
    have len : S.outlines.length = (outl S).length := by rw [← outl_eq O, List.length_map]
    unfold twice pTwice
    simp only [ap]
    have iff : ((had.map fun o => o.map fun i => S.outlines.getD i []).contains ((pane S m.at_).map fun i => S.outlines.getD i [])) = true ↔ pane S m.at_ ∈ had := by
      rw [List.contains_iff_mem, List.mem_map]
      constructor
      · rintro ⟨o, ho, e⟩
        obtain ⟨k, hk, rfl⟩ := hh o ho
        rw [ej] at e ⊢
        have e := Option.some.inj e
        dsimp only at e
        rw [List.getD_eq_getElem?_getD, List.getD_eq_getElem?_getD, List.getElem?_eq_getElem (by omega), List.getElem?_eq_getElem (by omega)] at e
        have : k = j := (List.getElem_inj (outlines_nodup S)).mp e
        rw [← this]
        exact ho
      · intro q
        exact ⟨_, q, rfl⟩
    by_cases c : pane S m.at_ ∈ had
    · rw [if_pos (iff.mpr c), if_pos c]
    · rw [if_neg (fun z => c (iff.mp z)), if_neg c]
      exact twice_eq O np ms (fun x hx => hc x (by simp [hx])) (i + 1) (pane S m.at_ :: had) (by
        intro o ho
        rcases List.mem_cons.mp ho with rfl | ho
        · exact ⟨j, hj, ej⟩
        · exact hh o ho)
theorem pTwice_none : ∀ (ms : List Mark) (i : Nat) (had : List (Option Nat)), pTwice S i had ms = none → (ms.map fun m => pane S m.at_).Nodup ∧ ∀ m ∈ ms, ¬ pane S m.at_ ∈ had
  | [], _, _, _ => by simp
  | m :: ms, i, had, h => by
    unfold pTwice at h
    by_cases c : pane S m.at_ ∈ had
    · rw [if_pos c] at h
      cases h
    · rw [if_neg c] at h
      have ih := pTwice_none ms _ _ h
      constructor
      · rw [List.map_cons, List.nodup_cons]
        refine ⟨fun q => ?_, ih.1⟩
        obtain ⟨x, hx, e⟩ := List.mem_map.mp q
        exact ih.2 x hx (by rw [e]; simp)
      · intro x hx
        rcases List.mem_cons.mp hx with rfl | hx
        · exact c
        · exact fun q => ih.2 x hx (by simp [q])
/-- **the rules 12 and 13**: the program's words are the specification's -/
theorem panes_eq (O : Good S) (np : 0 < S.pts.length) (hc : ∀ m ∈ S.marks, clear S m.at_ = true) :
    twice S S.outlines 0 [] S.marks = pTwice S 0 [] S.marks ∧ (pTwice S 0 [] S.marks = none → (S.marks.length < S.outlines.length ↔ S.marks.length ≠ (outl S).length)) := by
  refine ⟨twice_eq O np S.marks hc 0 [] (by simp), fun h => ?_⟩
  have len : S.outlines.length = (outl S).length := by rw [← outl_eq O, List.length_map]
  have nd := (pTwice_none S.marks 0 [] h).1
  have := nodup_len nd (w := (List.range (outl S).length).map some) (by
    intro o ho
    obtain ⟨m, hm, rfl⟩ := List.mem_map.mp ho
    obtain ⟨i, hi, e⟩ := pane_some O np (hc m hm)
    rw [e]
    exact List.mem_map.mpr ⟨i, List.mem_range.mpr hi, rfl⟩)
  rw [List.length_map, List.length_map, List.length_range] at this
  omega
end
end Lead
/-! tuples of ints: the one is greater -/
namespace LeadT
open PySem PyProof.Rows
open PySem.SeqAt
open PySem.AutoSeq1 (wpAny_loadPart')
open PySem.MeetsSeq PySem.MeetsSeq2 PySem.MeetsSeq3
/-- greater: of the first unequal items, else by length -/
def lexGt : List Int → List Int → Bool
  | [], _ => false
  | _ :: _, [] => true
  | x :: p, y :: q => if x = y then lexGt p q else decide (y < x)
theorem gt_one (A : Around) (s : Shared) (x : Int) (i : Tok) (y : Int) (j : Tok) (P : Program) (w : World) (E Q : Value → Shared → Prop) (h : Q (.bool (decide (y < x))) s) :
    wpAny (model P w) A (richCompare .Gt (.int x i) (.int y j)) Q E s := (PyProof.Rows.gt_int h : wpAny (model P w) A (compareOp .Gt (.int x i) (.int y j)) Q E s)
theorem gt_meets (p q : Addr) (xs ys : Array Value) (k k2 : Nat) (da db : Option Addr) (sa sb : Array (Option Value)) (us ws : List Int) (hx : IntsAre xs.toList us) (hy : IntsAre ys.toList ws) :
    Meets (Builtin.«tuple.__gt__» ⟨[.ref p, .ref q], []⟩)
      (fun _ R s => (s.heap.get? p = some { cls := .type "tuple", dict := da, data := .seq xs k, slots := sa }) ∧ (s.heap.get? q = some { cls := .type "tuple", dict := db, data := .seq ys k2, slots := sb }) ∧
        R (.ok (.ret (.bool (lexGt us ws)))) s) :=
  .of_wp fun P w A R s hh => by
    obtain ⟨hp, gs, dr, tk, os⟩ := s
    obtain ⟨e1, e2, hR0⟩ := hh
    have sub2 := AutoSeq1.sub_tuple_tuple
    have l1 : xs.size = us.length := by rw [← hx.length]; simp
    have l2 : ys.size = ws.length := by rw [← hy.length]; simp
    wp_walk using wpAny_loadPart' e1, wpAny_loadPart' e2, wpAny_forIn_list _ (fun left b s' => b.1 = none ∧ s' = ⟨hp, gs, dr, tk, os⟩ ∧ ∃ (v1 v2 : List Value) (u1 u2 : List Int), left = v1.zip v2 ∧
      IntsAre v1 u1 ∧ IntsAre v2 u2 ∧ u1.length + ys.size = u2.length + xs.size ∧ R (.ok (.ret (.bool (lexGt u1 u2)))) ⟨hp, gs, dr, tk, os⟩) _
    case turn =>
      rintro ⟨a, b⟩ left st s' ⟨st0, rfl, v1, v2, u1, u2, hz, i1, i2, hl, hR⟩
      cases i1 with
      | nil => rw [List.zip_nil_left] at hz; cases hz
      | cons m t i1' =>
        cases i2 with
        | nil => rw [List.zip_nil_right] at hz; cases hz
        | cons n u i2' =>
          rw [List.zip_cons_cons] at hz
          injection hz with hab hleft
          injection hab with ha hb
          subst ha hb
          rw [show lexGt (m :: _) (n :: _) = (if m = n then lexGt _ _ else decide (n < m)) from rfl] at hR
          simp only [List.length_cons] at hl
          obtain ⟨c, hc, hcc⟩ := HT.eqAt_int A.in1 ⟨hp, gs, dr, tk, os⟩ m t n u
          refine wpAny_bind (hc P w _ _ ?_)
          cases c with
          | true =>
            rw [if_pos (hcc.mp rfl)] at hR
            wp_walk
            exact ⟨rfl, rfl, _, _, _, _, hleft, i1', i2', by omega, hR⟩
          | false =>
            rw [if_neg (fun z => absurd (hcc.mpr z) Bool.false_ne_true)] at hR
            have step := gt_one A.in1 ⟨hp, gs, dr, tk, os⟩ m t n u P w
            wp_walk using step
            exact ⟨_, rfl, by simpa using hR⟩
    case fin =>
      rintro ⟨b1, b2⟩ s' ⟨hb', rfl, v1, v2, u1, u2, hz, i1, i2, hl, hR⟩
      simp only at hb'
      subst hb'
      have hv : lexGt u1 u2 = decide (ys.size < xs.size) := by
        cases i1 with
        | nil =>
          simp only [List.length_nil] at hl
          rw [show lexGt [] u2 = false by cases u2 <;> rfl]
          exact (decide_eq_false (by omega)).symm
        | cons m t i1' =>
          cases i2 with
          | nil =>
            simp only [List.length_nil, List.length_cons] at hl
            rw [show lexGt (m :: _) [] = true from rfl]
            exact (decide_eq_true (by omega)).symm
          | cons n u i2' =>
            rw [List.zip_cons_cons] at hz
            cases hz
      rw [hv] at hR
      wp_walk
      exact ⟨_, rfl, by simpa [Builtin.Tuple.tupleCompareSizes] using hR⟩
    case h =>
      exact ⟨rfl, rfl, xs.toList, ys.toList, us, ws, rfl, hx, hy, by omega, hR0⟩
theorem gt_tups {P : Program} {w : World} {A : Around} {E Q : Value → Shared → Prop} {s : Shared} {p q : Addr} {xs ys : Array Value} {us ws : List Int} (hp : IsTup s.heap p xs) (hq : IsTup s.heap q ys) (hx : IntsAre xs.toList us)
    (hy : IntsAre ys.toList ws) (hu : A.units < cLine) (h : Q (.bool (lexGt us ws)) s) : wpAny (model P w) A (compareOp .Gt (.ref p) (.ref q)) Q E s := by
  obtain ⟨⟨c1, d1, t1, s1⟩, o1, k1, n1, e1⟩ := id hp
  obtain ⟨⟨c2, d2, t2, s2⟩, o2, k2, n2, e2⟩ := id hq
  simp only at k1 e1 k2 e2
  subst k1 e1 k2 e2
  exact richCompare_meets_room (op := .Gt) ⟨_, o1, rfl⟩ ⟨_, o2, rfl⟩ PySem.F.slot_tuple_gt PySem.F.entry_tuple_gt (PySem.F.args_tuple_gt_2 _ _) (gt_meets p q xs ys n1 n2 d1 d2 s1 s2 us ws hx hy)
    ⟨o1, o2, show Value.bool (lexGt us ws) ≠ Value.notImplemented ∧ Q (.bool (lexGt us ws)) s from ⟨(fun x => nomatch x), h⟩⟩ hu
open L2
def rGtT (K : PySem.W.Frag) : R2 := fun x y H Q => ∃ (a b : Addr) (us ws : List Int), x = .ref a ∧ y = .ref b ∧ SqT K H a (us.map V.int) ∧ SqT K H b (ws.map V.int) ∧ Q (.bl (lexGt us ws)) H
theorem op_gtT {X : Cx} (hu : X.A.units < cLine) : OpR X (compareOp .Gt) (rGtT X.K) := by
  intro pins s σ H x y v u Q I rx ry hh
  obtain ⟨a, b, us, ws, rfl, rfl, ha, hb, q⟩ := hh
  cases rx
  cases ry
  obtain ⟨i1, r1, p1, _⟩ := I.tuple ha
  obtain ⟨i2, r2, p2, _⟩ := I.tuple hb
  exact gt_tups p1 p2 (intsAre_of r1) (intsAre_of r2) hu ⟨.bl (lexGt us ws), H, I, rfl, q⟩
end LeadT
namespace Lead
open PySem PySem.Spec PyProof.Rows L2 Evl LeadT
/-! ### points as pairs of ints -/
abbrev Z2 := Int × Int
def vz (p : Z2) : List V := [.int p.1, .int p.2]
def P2 (K : PySem.W.Frag) (H : Hp) (a : Addr) (p : Z2) : Prop := SqT K H a (vz p)
def sml (p : Z2) : Prop := (-8589934592 < p.1 ∧ p.1 < 8589934592) ∧ (-8589934592 < p.2 ∧ p.2 < 8589934592)
def tnZ (p q r : Z2) : Int := (q.1 - p.1) * (r.2 - q.2) - (q.2 - p.2) * (r.1 - q.1)
def onZ (p v q : Z2) : Int := (v.1 - p.1) * (q.1 - v.1) + (v.2 - p.2) * (q.2 - v.2)
def btw (a b c : Int) : Bool := decide ((if b < a then b else a) ≤ c) && decide (c ≤ (if b > a then b else a))
def isOnZ (p q r : Z2) : Bool := decide (tnZ p q r = 0) && (btw p.1 q.1 r.1 && btw p.2 q.2 r.2)
def apartZ (a b : Int) : Bool := (decide (0 < a) && decide (b < 0)) || (decide (a < 0) && decide (0 < b))
def crossZ (p q r s : Z2) : Bool := apartZ (tnZ p q r) (tnZ p q s) && apartZ (tnZ r s p) (tnZ r s q)
def behindZ (a b : Z2) : Bool := lexGt [a.2, a.1] [b.2, b.1]
section
variable {K : PySem.W.Frag} {σ : L2.St} {H H' : Hp} {ta tb tc te : TE} {a : Addr} {p : Z2} {x y z v : V}
theorem P2.mono (h : P2 K H a p) (e : Ex H H') : P2 K H' a p := ex_t e h
theorem P2.of (h : H a = some (.tup (vz p))) : P2 K H a p := st_of h
theorem ev_p0 (ha : Ev ta σ H (.ref a)) (h : P2 K H a p) : Ev (tOp (rIxT K) ta (tC (.int 0))) σ H (.int p.1) := ev_op ha ev_c (rv_ixT h rfl)
theorem ev_p1 (ha : Ev ta σ H (.ref a)) (h : P2 K H a p) : Ev (tOp (rIxT K) ta (tC (.int 1))) σ H (.int p.2) := ev_op ha ev_c (rv_ixT h rfl)
/-- a chain of two comparisons -/
theorem ev_chain {r r' : R2} {k m : Bool} (ha : Ev ta σ H x) (hb : Ev tb σ H y) (hr : RV r x y H (.bl k)) (hc : k = true → Ev tc σ H z) (hr' : k = true → RV r' y z H (.bl m)) : Ev (tChain r r' ta tb tc) σ H (.bl (k && m)) := fun H1 e Q q =>
  ha H1 e _ fun H2 e2 => hb H2 (e.trans e2) _ fun H3 e3 => hr H3 ((e.trans e2).trans e3) _ fun H4 e4 => ⟨k, rfl, by
    cases k with
    | true =>
      rw [if_pos rfl]
      exact hc rfl H4 (((e.trans e2).trans e3).trans e4) _ fun H5 e5 => hr' rfl H5 ((((e.trans e2).trans e3).trans e4).trans e5) Q fun H6 e6 => q H6 ((((e2.trans e3).trans e4).trans e5).trans e6)
    | false =>
      rw [if_neg Bool.false_ne_true]
      exact q H4 ((e2.trans e3).trans e4)⟩
theorem ev_tru {te : TE} {b : Bool} (h : Ev te σ H (.bl b)) : EvT (tB te) σ H b := et_B h
/-- a promise that gives a value -/
theorem spv_mono {sp : Sp} {vs : List V} (h : SpV sp vs H z) (e : Ex H H') : SpV sp vs H' z := fun H1 a Q q E => h H1 (e.trans a) Q q E
theorem sqT_upd {l : Addr} {o : HO} {xs : List V} (h : SqT K H a xs) (n : ∀ u, o ≠ .tup u) (hl : a ≠ l) : SqT K (upd H l o) a xs := by
  rcases h with (h | ⟨w, h⟩) | h
  · exact .inl (.inl (by rw [upd_ne hl]; exact h))
  · exact .inl (.inr ⟨w, by rw [upd_ne hl]; exact h⟩)
  · exact .inr h
end
end Lead
namespace Lead
open PySem PySem.Spec PyProof.Rows L2 Evl LeadT
/-! ### what the written part holds -/
/-- a def by its name -/
structure FnD (K : PySem.W.Frag) (mg : Str → Option Value) (x : Str) (st : Stmt) (ps : List Str) where
  f : Addr
  fd : FuncData
  F : Fun K x x st f fd
  g : mg x = some (.ref f)
  b : Binds K fd ps []
/-- a method -/
structure MtD (K : PySem.W.Frag) (C : Addr) (m q : Str) (st : Stmt) (ps : List Str) where
  f : Addr
  fd : FuncData
  F : Fun K m q st f fd
  b : Binds K fd ps []
  m : Meth K C m f
/-- an __init__ -/
structure InD (K : PySem.W.Frag) (q : Str) (st : Stmt) (ps : List Str) where
  f : Addr
  fd : FuncData
  F : Fun K "__init__" q st f fd
  b : Binds K fd ps []
/-- an own error -/
structure ExD (K : PySem.W.Frag) (mg : Str → Option Value) (x q : Str) (st : Stmt) (ps : List Str) where
  C : Addr
  g : mg x = some (.ref C)
  ox : OexC K C
  xf : XfC K C
  init : InD K q st ps
  iC : PySem.W.findIn K (.ref C) "__init__" = some (some (.ref init.f))
  tI : PySem.W.typeIn K (.ref init.f) = some (.type "function")
  te : PySem.W.exmOne K (.ref C) (.ref C) = some true
end Lead
namespace Lead
open PySem PySem.Spec PyProof.Rows L2 Evl LeadT
theorem hu0 {A : Around} {k : Nat} (hr : Room k A) : A.units < cLine := by have := hr.un; omega
theorem hu64 {A : Around} {k : Nat} (hr : Room k A) : A.units + 64 < cLine := by have := hr.un; omega
theorem hu65 {A : Around} {k : Nat} (hr : Room k A) : A.units + 65 < cLine := by have := hr.un; omega
end Lead
namespace Lead
open PySem PySem.Spec PyProof.Rows L2 Evl LeadT
def top (i : Nat) : Stmt := PySem.Challenge.pw_leadstrips_s04_judge.main.body.getD i (.Pass ⟨0, 0, 0, 0⟩)
abbrev s_turn : Stmt := top 1
abbrev N_turn : List Str := ["p", "q", "r"]
theorem sc_turn : FnScope N_turn ["p", "q", "r"] (defScope s_turn) := ⟨rfl, rfl, rfl, by decide +kernel, rfl, by decide +kernel, by decide +kernel⟩
abbrev s_onward : Stmt := top 2
abbrev N_onward : List Str := ["p", "v", "q"]
theorem sc_onward : FnScope N_onward ["p", "v", "q"] (defScope s_onward) := ⟨rfl, rfl, rfl, by decide +kernel, rfl, by decide +kernel, by decide +kernel⟩
abbrev s_is_between : Stmt := top 3
abbrev N_is_between : List Str := ["one", "other", "number"]
theorem sc_is_between : FnScope N_is_between ["one", "other", "number"] (defScope s_is_between) := ⟨rfl, rfl, rfl, by decide +kernel, rfl, by decide +kernel, by decide +kernel⟩
abbrev s_is_on : Stmt := top 4
abbrev N_is_on : List Str := ["p", "q", "r"]
theorem sc_is_on : FnScope N_is_on ["p", "q", "r"] (defScope s_is_on) := ⟨rfl, rfl, rfl, by decide +kernel, rfl, by decide +kernel, by decide +kernel⟩
abbrev s_are_apart : Stmt := top 5
abbrev N_are_apart : List Str := ["one", "other"]
theorem sc_are_apart : FnScope N_are_apart ["one", "other"] (defScope s_are_apart) := ⟨rfl, rfl, rfl, by decide +kernel, rfl, by decide +kernel, by decide +kernel⟩
abbrev s_cross : Stmt := top 6
abbrev N_cross : List Str := ["p", "q", "r", "s"]
theorem sc_cross : FnScope N_cross ["p", "q", "r", "s"] (defScope s_cross) := ⟨rfl, rfl, rfl, by decide +kernel, rfl, by decide +kernel, by decide +kernel⟩
abbrev s_comes_behind : Stmt := top 7
abbrev N_comes_behind : List Str := ["one", "other"]
theorem sc_comes_behind : FnScope N_comes_behind ["one", "other"] (defScope s_comes_behind) := ⟨rfl, rfl, rfl, by decide +kernel, rfl, by decide +kernel, by decide +kernel⟩
abbrev s_root_of : Stmt := top 8
abbrev N_root_of : List Str := ["number", "low", "high", "middle"]
theorem sc_root_of : FnScope N_root_of ["number"] (defScope s_root_of) := ⟨rfl, rfl, rfl, by decide +kernel, rfl, by decide +kernel, by decide +kernel⟩
abbrev s_distance : Stmt := top 9
abbrev N_distance : List Str := ["p", "q", "across", "up"]
theorem sc_distance : FnScope N_distance ["p", "q"] (defScope s_distance) := ⟨rfl, rfl, rfl, by decide +kernel, rfl, by decide +kernel, by decide +kernel⟩
abbrev s_NoCartoon_init : Stmt := inClass (top 18) 0
abbrev N_NoCartoon_init : List Str := ["self", "rule", "place"]
theorem sc_NoCartoon_init : FnScope N_NoCartoon_init ["self", "rule", "place"] (defScope s_NoCartoon_init) := ⟨rfl, rfl, rfl, by decide +kernel, rfl, by decide +kernel, by decide +kernel⟩
abbrev s_number_at : Stmt := top 19
abbrev N_number_at : List Str := ["data", "at", "many", "number", "k"]
theorem sc_number_at : FnScope N_number_at ["data", "at", "many"] (defScope s_number_at) := ⟨rfl, rfl, rfl, by decide +kernel, rfl, by decide +kernel, by decide +kernel⟩
abbrev s_Drawing_init : Stmt := inClass (top 20) 0
abbrev N_Drawing_init : List Str := ["self", "data"]
theorem sc_Drawing_init : FnScope N_Drawing_init ["self", "data"] (defScope s_Drawing_init) := ⟨rfl, rfl, rfl, by decide +kernel, rfl, by decide +kernel, by decide +kernel⟩
abbrev s_Drawing_line_base : Stmt := inClass (top 20) 1
abbrev N_Drawing_line_base : List Str := ["self"]
theorem sc_Drawing_line_base : FnScope N_Drawing_line_base ["self"] (defScope s_Drawing_line_base) := ⟨rfl, rfl, rfl, by decide +kernel, rfl, by decide +kernel, by decide +kernel⟩
abbrev s_Drawing_mark_base : Stmt := inClass (top 20) 2
abbrev N_Drawing_mark_base : List Str := ["self"]
theorem sc_Drawing_mark_base : FnScope N_Drawing_mark_base ["self"] (defScope s_Drawing_mark_base) := ⟨rfl, rfl, rfl, by decide +kernel, rfl, by decide +kernel, by decide +kernel⟩
abbrev s_Drawing_whole_size : Stmt := inClass (top 20) 3
abbrev N_Drawing_whole_size : List Str := ["self"]
theorem sc_Drawing_whole_size : FnScope N_Drawing_whole_size ["self"] (defScope s_Drawing_whole_size) := ⟨rfl, rfl, rfl, by decide +kernel, rfl, by decide +kernel, by decide +kernel⟩
abbrev s_Drawing_point_place : Stmt := inClass (top 20) 4
abbrev N_Drawing_point_place : List Str := ["self", "number"]
theorem sc_Drawing_point_place : FnScope N_Drawing_point_place ["self", "number"] (defScope s_Drawing_point_place) := ⟨rfl, rfl, rfl, by decide +kernel, rfl, by decide +kernel, by decide +kernel⟩
abbrev s_Drawing_line_place : Stmt := inClass (top 20) 5
abbrev N_Drawing_line_place : List Str := ["self", "number"]
theorem sc_Drawing_line_place : FnScope N_Drawing_line_place ["self", "number"] (defScope s_Drawing_line_place) := ⟨rfl, rfl, rfl, by decide +kernel, rfl, by decide +kernel, by decide +kernel⟩
abbrev s_Drawing_mark_place : Stmt := inClass (top 20) 6
abbrev N_Drawing_mark_place : List Str := ["self", "number"]
theorem sc_Drawing_mark_place : FnScope N_Drawing_mark_place ["self", "number"] (defScope s_Drawing_mark_place) := ⟨rfl, rfl, rfl, by decide +kernel, rfl, by decide +kernel, by decide +kernel⟩
abbrev s_Drawing_fill : Stmt := inClass (top 20) 7
abbrev N_Drawing_fill : List Str := ["self", "data", "number", "at"]
theorem sc_Drawing_fill : FnScope N_Drawing_fill ["self", "data"] (defScope s_Drawing_fill) := ⟨rfl, rfl, rfl, by decide +kernel, rfl, by decide +kernel, by decide +kernel⟩
abbrev s_Drawing_is_on_edge : Stmt := inClass (top 20) 8
abbrev N_Drawing_is_on_edge : List Str := ["self", "number", "x", "y"]
theorem sc_Drawing_is_on_edge : FnScope N_Drawing_is_on_edge ["self", "number"] (defScope s_Drawing_is_on_edge) := ⟨rfl, rfl, rfl, by decide +kernel, rfl, by decide +kernel, by decide +kernel⟩
abbrev s_ask : Stmt := top 21
abbrev N_ask : List Str := ["holds", "rule", "place"]
theorem sc_ask : FnScope N_ask ["holds", "rule", "place"] (defScope s_ask) := ⟨rfl, rfl, rfl, by decide +kernel, rfl, by decide +kernel, by decide +kernel⟩
abbrev s_check_head : Stmt := top 22
abbrev N_check_head : List Str := ["data", "drawing"]
theorem sc_check_head : FnScope N_check_head ["data", "drawing"] (defScope s_check_head) := ⟨rfl, rfl, rfl, by decide +kernel, rfl, by decide +kernel, by decide +kernel⟩
abbrev s_drawing_of : Stmt := top 23
abbrev N_drawing_of : List Str := ["data", "drawing"]
theorem sc_drawing_of : FnScope N_drawing_of ["data"] (defScope s_drawing_of) := ⟨rfl, rfl, rfl, by decide +kernel, rfl, by decide +kernel, by decide +kernel⟩
abbrev s_check_points : Stmt := top 24
abbrev N_check_points : List Str := ["drawing", "number", "point", "good"]
theorem sc_check_points : FnScope N_check_points ["drawing"] (defScope s_check_points) := ⟨rfl, rfl, rfl, by decide +kernel, rfl, by decide +kernel, by decide +kernel⟩
abbrev s_check_lines : Stmt := top 25
abbrev N_check_lines : List Str := ["drawing", "number", "line", "good"]
theorem sc_check_lines : FnScope N_check_lines ["drawing"] (defScope s_check_lines) := ⟨rfl, rfl, rfl, by decide +kernel, rfl, by decide +kernel, by decide +kernel⟩
abbrev s_edges_of : Stmt := top 26
abbrev N_edges_of : List Str := ["drawing", "found", "number", "x", "y", "edge", "holds"]
theorem sc_edges_of : FnScope N_edges_of ["drawing"] (defScope s_edges_of) := ⟨rfl, rfl, rfl, by decide +kernel, rfl, by decide +kernel, by decide +kernel⟩
abbrev s_check_frame : Stmt := top 27
abbrev N_check_frame : List Str := ["drawing", "corner", "edge", "k"]
theorem sc_check_frame : FnScope N_check_frame ["drawing"] (defScope s_check_frame) := ⟨rfl, rfl, rfl, by decide +kernel, rfl, by decide +kernel, by decide +kernel⟩
abbrev s_is_free : Stmt := top 28
abbrev N_is_free : List Str := ["drawing", "number", "one", "other", "p", "q", "point", "first", "second"]
theorem sc_is_free : FnScope N_is_free ["drawing", "number"] (defScope s_is_free) := ⟨rfl, rfl, rfl, by decide +kernel, rfl, by decide +kernel, by decide +kernel⟩
abbrev s_check_crossings : Stmt := top 29
abbrev N_check_crossings : List Str := ["drawing", "number"]
theorem sc_check_crossings : FnScope N_check_crossings ["drawing"] (defScope s_check_crossings) := ⟨rfl, rfl, rfl, by decide +kernel, rfl, by decide +kernel, by decide +kernel⟩
abbrev s_neighbours_of : Stmt := top 30
abbrev N_neighbours_of : List Str := ["drawing", "found", "one", "other", "point"]
theorem sc_neighbours_of : FnScope N_neighbours_of ["drawing"] (defScope s_neighbours_of) := ⟨rfl, rfl, rfl, by decide +kernel, rfl, by decide +kernel, by decide +kernel⟩
abbrev s_reached : Stmt := top 31
abbrev N_reached : List Str := ["neighbours", "start", "left_out", "met", "waiting", "other"]
theorem sc_reached : FnScope N_reached ["neighbours", "start", "left_out"] (defScope s_reached) := ⟨rfl, rfl, rfl, by decide +kernel, rfl, by decide +kernel, by decide +kernel⟩
abbrev s_check_ways : Stmt := top 32
abbrev N_check_ways : List Str := ["drawing", "neighbours", "number", "met"]
theorem sc_check_ways : FnScope N_check_ways ["drawing"] (defScope s_check_ways) := ⟨rfl, rfl, rfl, by decide +kernel, rfl, by decide +kernel, by decide +kernel⟩
abbrev s_check_drawing : Stmt := top 33
abbrev N_check_drawing : List Str := ["drawing"]
theorem sc_check_drawing : FnScope N_check_drawing ["drawing"] (defScope s_check_drawing) := ⟨rfl, rfl, rfl, by decide +kernel, rfl, by decide +kernel, by decide +kernel⟩
abbrev s_away : Stmt := top 35
abbrev N_away : List Str := ["drawing", "v", "u", "p", "q"]
theorem sc_away : FnScope N_away ["drawing", "v", "u"] (defScope s_away) := ⟨rfl, rfl, rfl, by decide +kernel, rfl, by decide +kernel, by decide +kernel⟩
abbrev s_area : Stmt := top 36
abbrev N_area : List Str := ["one", "other"]
theorem sc_area : FnScope N_area ["one", "other"] (defScope s_area) := ⟨rfl, rfl, rfl, by decide +kernel, rfl, by decide +kernel, by decide +kernel⟩
abbrev s_half : Stmt := top 37
abbrev N_half : List Str := ["start", "way", "side"]
theorem sc_half : FnScope N_half ["start", "way"] (defScope s_half) := ⟨rfl, rfl, rfl, by decide +kernel, rfl, by decide +kernel, by decide +kernel⟩
abbrev s_is_sooner : Stmt := top 38
abbrev N_is_sooner : List Str := ["start", "one", "other"]
theorem sc_is_sooner : FnScope N_is_sooner ["start", "one", "other"] (defScope s_is_sooner) := ⟨rfl, rfl, rfl, by decide +kernel, rfl, by decide +kernel, by decide +kernel⟩
abbrev s_next_point : Stmt := top 39
abbrev N_next_point : List Str := ["drawing", "neighbours", "u", "v", "start", "best", "w"]
theorem sc_next_point : FnScope N_next_point ["drawing", "neighbours", "u", "v"] (defScope s_next_point) := ⟨rfl, rfl, rfl, by decide +kernel, rfl, by decide +kernel, by decide +kernel⟩
abbrev s_outline_from : Stmt := top 40
abbrev N_outline_from : List Str := ["drawing", "neighbours", "u", "v", "found", "before", "here"]
theorem sc_outline_from : FnScope N_outline_from ["drawing", "neighbours", "u", "v"] (defScope s_outline_from) := ⟨rfl, rfl, rfl, by decide +kernel, rfl, by decide +kernel, by decide +kernel⟩
abbrev s_sides_of : Stmt := top 41
abbrev N_sides_of : List Str := ["outline", "found", "k"]
theorem sc_sides_of : FnScope N_sides_of ["outline"] (defScope s_sides_of) := ⟨rfl, rfl, rfl, by decide +kernel, rfl, by decide +kernel, by decide +kernel⟩
abbrev s_is_to_left : Stmt := top 42
abbrev N_is_to_left : List Str := ["drawing", "outline", "whole", "one", "other"]
theorem sc_is_to_left : FnScope N_is_to_left ["drawing", "outline"] (defScope s_is_to_left) := ⟨rfl, rfl, rfl, by decide +kernel, rfl, by decide +kernel, by decide +kernel⟩
abbrev s_outlines_of : Stmt := top 43
abbrev N_outlines_of : List Str := ["drawing", "neighbours", "met", "found", "one", "other", "u", "v", "outline", "side"]
theorem sc_outlines_of : FnScope N_outlines_of ["drawing"] (defScope s_outlines_of) := ⟨rfl, rfl, rfl, by decide +kernel, rfl, by decide +kernel, by decide +kernel⟩
abbrev s_is_passed : Stmt := top 44
abbrev N_is_passed : List Str := ["p", "q", "mark"]
theorem sc_is_passed : FnScope N_is_passed ["p", "q", "mark"] (defScope s_is_passed) := ⟨rfl, rfl, rfl, by decide +kernel, rfl, by decide +kernel, by decide +kernel⟩
abbrev s_is_in : Stmt := top 45
abbrev N_is_in : List Str := ["drawing", "outline", "mark", "rounds", "one", "other"]
theorem sc_is_in : FnScope N_is_in ["drawing", "outline", "mark"] (defScope s_is_in) := ⟨rfl, rfl, rfl, by decide +kernel, rfl, by decide +kernel, by decide +kernel⟩
abbrev s_pane_of : Stmt := top 46
abbrev N_pane_of : List Str := ["drawing", "outlines", "mark", "number"]
theorem sc_pane_of : FnScope N_pane_of ["drawing", "outlines", "mark"] (defScope s_pane_of) := ⟨rfl, rfl, rfl, by decide +kernel, rfl, by decide +kernel, by decide +kernel⟩
abbrev s_is_on_line : Stmt := top 47
abbrev N_is_on_line : List Str := ["drawing", "mark", "one", "other"]
theorem sc_is_on_line : FnScope N_is_on_line ["drawing", "mark"] (defScope s_is_on_line) := ⟨rfl, rfl, rfl, by decide +kernel, rfl, by decide +kernel, by decide +kernel⟩
abbrev s_check_marks : Stmt := top 48
abbrev N_check_marks : List Str := ["drawing", "number", "mark", "good"]
theorem sc_check_marks : FnScope N_check_marks ["drawing"] (defScope s_check_marks) := ⟨rfl, rfl, rfl, by decide +kernel, rfl, by decide +kernel, by decide +kernel⟩
abbrev s_check_panes : Stmt := top 49
abbrev N_check_panes : List Str := ["drawing", "outlines", "met", "number", "mark", "pane"]
theorem sc_check_panes : FnScope N_check_panes ["drawing"] (defScope s_check_panes) := ⟨rfl, rfl, rfl, by decide +kernel, rfl, by decide +kernel, by decide +kernel⟩
abbrev s_cartoon_of : Stmt := top 50
abbrev N_cartoon_of : List Str := ["data", "drawing"]
theorem sc_cartoon_of : FnScope N_cartoon_of ["data"] (defScope s_cartoon_of) := ⟨rfl, rfl, rfl, by decide +kernel, rfl, by decide +kernel, by decide +kernel⟩
abbrev s_is_edge_line : Stmt := top 53
abbrev N_is_edge_line : List Str := ["drawing", "line", "p", "q"]
theorem sc_is_edge_line : FnScope N_is_edge_line ["drawing", "line"] (defScope s_is_edge_line) := ⟨rfl, rfl, rfl, by decide +kernel, rfl, by decide +kernel, by decide +kernel⟩
abbrev s_leads_of : Stmt := top 54
abbrev N_leads_of : List Str := ["drawing", "number", "line"]
theorem sc_leads_of : FnScope N_leads_of ["drawing"] (defScope s_leads_of) := ⟨rfl, rfl, rfl, by decide +kernel, rfl, by decide +kernel, by decide +kernel⟩
abbrev s_length_of : Stmt := top 55
abbrev N_length_of : List Str := ["drawing", "lead", "one", "other"]
theorem sc_length_of : FnScope N_length_of ["drawing", "lead"] (defScope s_length_of) := ⟨rfl, rfl, rfl, by decide +kernel, rfl, by decide +kernel, by decide +kernel⟩
abbrev s_other_end : Stmt := top 56
abbrev N_other_end : List Str := ["drawing", "lead", "point", "one", "other"]
theorem sc_other_end : FnScope N_other_end ["drawing", "lead", "point"] (defScope s_other_end) := ⟨rfl, rfl, rfl, by decide +kernel, rfl, by decide +kernel, by decide +kernel⟩
abbrev s_ending_at : Stmt := top 57
abbrev N_ending_at : List Str := ["drawing", "leads", "found", "lead", "point"]
theorem sc_ending_at : FnScope N_ending_at ["drawing", "leads"] (defScope s_ending_at) := ⟨rfl, rfl, rfl, by decide +kernel, rfl, by decide +kernel, by decide +kernel⟩
abbrev s_Pair_init : Stmt := inClass (top 58) 0
abbrev N_Pair_init : List Str := ["self", "one", "other", "bend", "on"]
theorem sc_Pair_init : FnScope N_Pair_init ["self", "one", "other", "bend", "on"] (defScope s_Pair_init) := ⟨rfl, rfl, rfl, by decide +kernel, rfl, by decide +kernel, by decide +kernel⟩
abbrev s_pair_at : Stmt := top 59
abbrev N_pair_at : List Str := ["drawing", "v", "one", "other", "p", "q", "middle"]
theorem sc_pair_at : FnScope N_pair_at ["drawing", "v", "one", "other"] (defScope s_pair_at) := ⟨rfl, rfl, rfl, by decide +kernel, rfl, by decide +kernel, by decide +kernel⟩
abbrev s_goes_through : Stmt := top 60
abbrev N_goes_through : List Str := ["pair", "a", "b"]
theorem sc_goes_through : FnScope N_goes_through ["pair", "a", "b"] (defScope s_goes_through) := ⟨rfl, rfl, rfl, by decide +kernel, rfl, by decide +kernel, by decide +kernel⟩
abbrev s_is_ahead : Stmt := top 61
abbrev N_is_ahead : List Str := ["pair", "than", "left", "right"]
theorem sc_is_ahead : FnScope N_is_ahead ["pair", "than"] (defScope s_is_ahead) := ⟨rfl, rfl, rfl, by decide +kernel, rfl, by decide +kernel, by decide +kernel⟩
abbrev s_first_pair : Stmt := top 62
abbrev N_first_pair : List Str := ["pairs", "best", "pair"]
theorem sc_first_pair : FnScope N_first_pair ["pairs"] (defScope s_first_pair) := ⟨rfl, rfl, rfl, by decide +kernel, rfl, by decide +kernel, by decide +kernel⟩
abbrev s_pairs_at : Stmt := top 63
abbrev N_pairs_at : List Str := ["drawing", "v", "leads", "a", "b", "found", "k", "j", "pair"]
theorem sc_pairs_at : FnScope N_pairs_at ["drawing", "v", "leads", "a", "b"] (defScope s_pairs_at) := ⟨rfl, rfl, rfl, by decide +kernel, rfl, by decide +kernel, by decide +kernel⟩
abbrev s_meets : Stmt := top 64
abbrev N_meets : List Str := ["pair", "taken"]
theorem sc_meets : FnScope N_meets ["pair", "taken"] (defScope s_meets) := ⟨rfl, rfl, rfl, by decide +kernel, rfl, by decide +kernel, by decide +kernel⟩
abbrev s_join_at : Stmt := top 65
abbrev N_join_at : List Str := ["joins", "v", "pairs", "best", "pair"]
theorem sc_join_at : FnScope N_join_at ["joins", "v", "pairs"] (defScope s_join_at) := ⟨rfl, rfl, rfl, by decide +kernel, rfl, by decide +kernel, by decide +kernel⟩
abbrev s_joins_of : Stmt := top 66
abbrev N_joins_of : List Str := ["drawing", "leads", "a", "b", "joins", "v", "ending"]
theorem sc_joins_of : FnScope N_joins_of ["drawing", "leads", "a", "b"] (defScope s_joins_of) := ⟨rfl, rfl, rfl, by decide +kernel, rfl, by decide +kernel, by decide +kernel⟩
abbrev s_trail : Stmt := top 67
abbrev N_trail : List Str := ["drawing", "joins", "start", "point", "leads", "points", "lead"]
theorem sc_trail : FnScope N_trail ["drawing", "joins", "start", "point"] (defScope s_trail) := ⟨rfl, rfl, rfl, by decide +kernel, rfl, by decide +kernel, by decide +kernel⟩
abbrev s_first_of_ring : Stmt := top 68
abbrev N_first_of_ring : List Str := ["drawing", "leads", "point", "lead"]
theorem sc_first_of_ring : FnScope N_first_of_ring ["drawing", "leads"] (defScope s_first_of_ring) := ⟨rfl, rfl, rfl, by decide +kernel, rfl, by decide +kernel, by decide +kernel⟩
abbrev s_strip_of : Stmt := top 69
abbrev N_strip_of : List Str := ["drawing", "joins", "lead", "one", "other", "leads", "points", "is_ring", "point", "first", "back", "points_back", "ends"]
theorem sc_strip_of : FnScope N_strip_of ["drawing", "joins", "lead"] (defScope s_strip_of) := ⟨rfl, rfl, rfl, by decide +kernel, rfl, by decide +kernel, by decide +kernel⟩
abbrev s_strips_of : Stmt := top 70
abbrev N_strips_of : List Str := ["drawing", "a", "b", "leads", "joins", "met", "found", "lead", "strip", "own"]
theorem sc_strips_of : FnScope N_strips_of ["drawing", "a", "b"] (defScope s_strips_of) := ⟨rfl, rfl, rfl, by decide +kernel, rfl, by decide +kernel, by decide +kernel⟩
abbrev s_TooLong_init : Stmt := inClass (top 72) 0
abbrev N_TooLong_init : List Str := ["self", "lead"]
theorem sc_TooLong_init : FnScope N_TooLong_init ["self", "lead"] (defScope s_TooLong_init) := ⟨rfl, rfl, rfl, by decide +kernel, rfl, by decide +kernel, by decide +kernel⟩
abbrev s_check_lengths : Stmt := top 73
abbrev N_check_lengths : List Str := ["drawing", "bar", "joint", "lead"]
theorem sc_check_lengths : FnScope N_check_lengths ["drawing", "bar", "joint"] (defScope s_check_lengths) := ⟨rfl, rfl, rfl, by decide +kernel, rfl, by decide +kernel, by decide +kernel⟩
abbrev s_pieces_of_strip : Stmt := top 74
abbrev N_pieces_of_strip : List Str := ["drawing", "strip", "bar", "joint", "leads", "points", "found", "size", "row", "k", "own"]
theorem sc_pieces_of_strip : FnScope N_pieces_of_strip ["drawing", "strip", "bar", "joint"] (defScope s_pieces_of_strip) := ⟨rfl, rfl, rfl, by decide +kernel, rfl, by decide +kernel, by decide +kernel⟩
abbrev s_pieces_of : Stmt := top 75
abbrev N_pieces_of : List Str := ["drawing", "strips", "bar", "joint", "found", "strip"]
theorem sc_pieces_of : FnScope N_pieces_of ["drawing", "strips", "bar", "joint"] (defScope s_pieces_of) := ⟨rfl, rfl, rfl, by decide +kernel, rfl, by decide +kernel, by decide +kernel⟩
abbrev s_lengths_of : Stmt := top 76
abbrev N_lengths_of : List Str := ["pieces", "piece"]
theorem sc_lengths_of : FnScope N_lengths_of ["pieces"] (defScope s_lengths_of) := ⟨rfl, rfl, rfl, by decide +kernel, rfl, by decide +kernel, by decide +kernel⟩
abbrev s_overfull : Stmt := top 77
abbrev N_overfull : List Str := ["lengths", "row", "bar", "loss", "filled", "length", "number"]
theorem sc_overfull : FnScope N_overfull ["lengths", "row", "bar", "loss"] (defScope s_overfull) := ⟨rfl, rfl, rfl, by decide +kernel, rfl, by decide +kernel, by decide +kernel⟩
abbrev s_is_shop : Stmt := top 89
abbrev N_is_shop : List Str := ["a", "b", "bar", "joint", "loss"]
theorem sc_is_shop : FnScope N_is_shop ["a", "b", "bar", "joint", "loss"] (defScope s_is_shop) := ⟨rfl, rfl, rfl, by decide +kernel, rfl, by decide +kernel, by decide +kernel⟩
abbrev s_opened : Stmt := top 90
abbrev N_opened : List Str := ["good", "cartoon", "drawing", "e"]
theorem sc_opened : FnScope N_opened ["good", "cartoon"] (defScope s_opened) := ⟨rfl, rfl, rfl, by decide +kernel, rfl, by decide +kernel, by decide +kernel⟩
abbrev s_cut : Stmt := top 91
abbrev N_cut : List Str := ["drawing", "a", "b", "bar", "joint", "found", "e"]
theorem sc_cut : FnScope N_cut ["drawing", "a", "b", "bar", "joint"] (defScope s_cut) := ⟨rfl, rfl, rfl, by decide +kernel, rfl, by decide +kernel, by decide +kernel⟩
abbrev s_judge : Stmt := top 92
abbrev N_judge : List Str := ["a", "b", "bar", "joint", "loss", "cartoon", "row", "refused", "drawing", "found", "number"]
theorem sc_judge : FnScope N_judge ["a", "b", "bar", "joint", "loss", "cartoon", "row"] (defScope s_judge) := ⟨rfl, rfl, rfl, by decide +kernel, rfl, by decide +kernel, by decide +kernel⟩
structure DrD (K : PySem.W.Frag) (mg : Str → Option Value) where
  C : Addr
  g : mg "Drawing" = some (.ref C)
  cl : Cls K C
  init : InD K "Drawing.__init__" s_Drawing_init ["self", "data"]
  M : Mk K C init.f
  line_base : MtD K C "line_base" "Drawing.line_base" s_Drawing_line_base ["self"]
  mark_base : MtD K C "mark_base" "Drawing.mark_base" s_Drawing_mark_base ["self"]
  whole_size : MtD K C "whole_size" "Drawing.whole_size" s_Drawing_whole_size ["self"]
  point_place : MtD K C "point_place" "Drawing.point_place" s_Drawing_point_place ["self", "number"]
  line_place : MtD K C "line_place" "Drawing.line_place" s_Drawing_line_place ["self", "number"]
  mark_place : MtD K C "mark_place" "Drawing.mark_place" s_Drawing_mark_place ["self", "number"]
  fill : MtD K C "fill" "Drawing.fill" s_Drawing_fill ["self", "data"]
  is_on_edge : MtD K C "is_on_edge" "Drawing.is_on_edge" s_Drawing_is_on_edge ["self", "number"]
  na_size : NoAttr K C "size"
  na_width : NoAttr K C "width"
  na_height : NoAttr K C "height"
  na_counts : NoAttr K C "counts"
  na_points : NoAttr K C "points"
  na_lines : NoAttr K C "lines"
  na_marks : NoAttr K C "marks"
structure PrD (K : PySem.W.Frag) (mg : Str → Option Value) where
  C : Addr
  g : mg "Pair" = some (.ref C)
  cl : Cls K C
  init : InD K "Pair.__init__" s_Pair_init ["self", "one", "other", "bend", "on"]
  M : Mk K C init.f
  na_one : NoAttr K C "one"
  na_other : NoAttr K C "other"
  na_bend : NoAttr K C "bend"
  na_on : NoAttr K C "on"
/-- what the top has written -/
structure Txt (K : PySem.W.Frag) (mg : Str → Option Value) where
  turn : FnD K mg "turn" s_turn ["p", "q", "r"]
  onward : FnD K mg "onward" s_onward ["p", "v", "q"]
  is_between : FnD K mg "is_between" s_is_between ["one", "other", "number"]
  is_on : FnD K mg "is_on" s_is_on ["p", "q", "r"]
  are_apart : FnD K mg "are_apart" s_are_apart ["one", "other"]
  cross : FnD K mg "cross" s_cross ["p", "q", "r", "s"]
  comes_behind : FnD K mg "comes_behind" s_comes_behind ["one", "other"]
  root_of : FnD K mg "root_of" s_root_of ["number"]
  distance : FnD K mg "distance" s_distance ["p", "q"]
  number_at : FnD K mg "number_at" s_number_at ["data", "at", "many"]
  ask : FnD K mg "ask" s_ask ["holds", "rule", "place"]
  check_head : FnD K mg "check_head" s_check_head ["data", "drawing"]
  drawing_of : FnD K mg "drawing_of" s_drawing_of ["data"]
  check_points : FnD K mg "check_points" s_check_points ["drawing"]
  check_lines : FnD K mg "check_lines" s_check_lines ["drawing"]
  edges_of : FnD K mg "edges_of" s_edges_of ["drawing"]
  check_frame : FnD K mg "check_frame" s_check_frame ["drawing"]
  is_free : FnD K mg "is_free" s_is_free ["drawing", "number"]
  check_crossings : FnD K mg "check_crossings" s_check_crossings ["drawing"]
  neighbours_of : FnD K mg "neighbours_of" s_neighbours_of ["drawing"]
  reached : FnD K mg "reached" s_reached ["neighbours", "start", "left_out"]
  check_ways : FnD K mg "check_ways" s_check_ways ["drawing"]
  check_drawing : FnD K mg "check_drawing" s_check_drawing ["drawing"]
  away : FnD K mg "away" s_away ["drawing", "v", "u"]
  area : FnD K mg "area" s_area ["one", "other"]
  half : FnD K mg "half" s_half ["start", "way"]
  is_sooner : FnD K mg "is_sooner" s_is_sooner ["start", "one", "other"]
  next_point : FnD K mg "next_point" s_next_point ["drawing", "neighbours", "u", "v"]
  outline_from : FnD K mg "outline_from" s_outline_from ["drawing", "neighbours", "u", "v"]
  sides_of : FnD K mg "sides_of" s_sides_of ["outline"]
  is_to_left : FnD K mg "is_to_left" s_is_to_left ["drawing", "outline"]
  outlines_of : FnD K mg "outlines_of" s_outlines_of ["drawing"]
  is_passed : FnD K mg "is_passed" s_is_passed ["p", "q", "mark"]
  is_in : FnD K mg "is_in" s_is_in ["drawing", "outline", "mark"]
  pane_of : FnD K mg "pane_of" s_pane_of ["drawing", "outlines", "mark"]
  is_on_line : FnD K mg "is_on_line" s_is_on_line ["drawing", "mark"]
  check_marks : FnD K mg "check_marks" s_check_marks ["drawing"]
  check_panes : FnD K mg "check_panes" s_check_panes ["drawing"]
  cartoon_of : FnD K mg "cartoon_of" s_cartoon_of ["data"]
  is_edge_line : FnD K mg "is_edge_line" s_is_edge_line ["drawing", "line"]
  leads_of : FnD K mg "leads_of" s_leads_of ["drawing"]
  length_of : FnD K mg "length_of" s_length_of ["drawing", "lead"]
  other_end : FnD K mg "other_end" s_other_end ["drawing", "lead", "point"]
  ending_at : FnD K mg "ending_at" s_ending_at ["drawing", "leads"]
  pair_at : FnD K mg "pair_at" s_pair_at ["drawing", "v", "one", "other"]
  goes_through : FnD K mg "goes_through" s_goes_through ["pair", "a", "b"]
  is_ahead : FnD K mg "is_ahead" s_is_ahead ["pair", "than"]
  first_pair : FnD K mg "first_pair" s_first_pair ["pairs"]
  pairs_at : FnD K mg "pairs_at" s_pairs_at ["drawing", "v", "leads", "a", "b"]
  meets : FnD K mg "meets" s_meets ["pair", "taken"]
  join_at : FnD K mg "join_at" s_join_at ["joins", "v", "pairs"]
  joins_of : FnD K mg "joins_of" s_joins_of ["drawing", "leads", "a", "b"]
  trail : FnD K mg "trail" s_trail ["drawing", "joins", "start", "point"]
  first_of_ring : FnD K mg "first_of_ring" s_first_of_ring ["drawing", "leads"]
  strip_of : FnD K mg "strip_of" s_strip_of ["drawing", "joins", "lead"]
  strips_of : FnD K mg "strips_of" s_strips_of ["drawing", "a", "b"]
  check_lengths : FnD K mg "check_lengths" s_check_lengths ["drawing", "bar", "joint"]
  pieces_of_strip : FnD K mg "pieces_of_strip" s_pieces_of_strip ["drawing", "strip", "bar", "joint"]
  pieces_of : FnD K mg "pieces_of" s_pieces_of ["drawing", "strips", "bar", "joint"]
  lengths_of : FnD K mg "lengths_of" s_lengths_of ["pieces"]
  overfull : FnD K mg "overfull" s_overfull ["lengths", "row", "bar", "loss"]
  is_shop : FnD K mg "is_shop" s_is_shop ["a", "b", "bar", "joint", "loss"]
  opened : FnD K mg "opened" s_opened ["good", "cartoon"]
  cut : FnD K mg "cut" s_cut ["drawing", "a", "b", "bar", "joint"]
  judge : FnD K mg "judge" s_judge ["a", "b", "bar", "joint", "loss", "cartoon", "row"]
  c_HEAD : ∃ t, mg "HEAD" = some (.int (20) t)
  c_LEAST_SIDE : ∃ t, mg "LEAST_SIDE" = some (.int (16) t)
  c_GREATEST_SIDE : ∃ t, mg "GREATEST_SIDE" = some (.int (1048575) t)
  c_POINT_BYTES : ∃ t, mg "POINT_BYTES" = some (.int (8) t)
  c_LINE_BYTES : ∃ t, mg "LINE_BYTES" = some (.int (4) t)
  c_MARK_BYTES : ∃ t, mg "MARK_BYTES" = some (.int (12) t)
  c_LONE : ∃ t, mg "LONE" = some (.int (-1) t)
  c_DONE : ∃ t, mg "DONE" = some (.int (0) t)
  c_NO_SHOP : ∃ t, mg "NO_SHOP" = some (.int (-1) t)
  c_OTHER_BARS : ∃ t, mg "OTHER_BARS" = some (.int (-2) t)
  c_LEAD_TOO_LONG : ∃ t, mg "LEAD_TOO_LONG" = some (.int (-3) t)
  c_NO_CARTOON : ∃ t, mg "NO_CARTOON" = some (.int (-5) t)
  c_TOO_MANY_BYTES : ∃ t, mg "TOO_MANY_BYTES" = some (.int (-6) t)
  c_MOST_BYTES : ∃ t, mg "MOST_BYTES" = some (.int (131072) t)
  c_MOST_BEND : ∃ t, mg "MOST_BEND" = some (.int (1000) t)
  c_MOST_BAR : ∃ t, mg "MOST_BAR" = some (.int (16777215) t)
  c_MOST_LOSS : ∃ t, mg "MOST_LOSS" = some (.int (65535) t)
  a_MAGIC : Addr
  g_MAGIC : mg "MAGIC" = some (.ref a_MAGIC)
  l_MAGIC : ∃ (ob : Obj) (its : Array Value) (n : Nat), K.lookup a_MAGIC = some ob ∧ ob.cls = .type "list" ∧ ob.dict = none ∧ ob.data = .seq its n ∧ its.size ≤ sizeLine ∧ Vals [.int 71, .int 76, .int 65, .int 49] its.toList
  n_len : mg "len" = none
  n_min : mg "min" = none
  n_max : mg "max" = none
  n_abs : mg "abs" = none
  n_int : mg "int" = none
  n_sorted : mg "sorted" = none
  n_list : mg "list" = none
  n_range : mg "range" = none
  n_enumerate : mg "enumerate" = none
  n_zip : mg "zip" = none
  Drawing : DrD K mg
  Pair : PrD K mg
  x_NoCartoon : ExD K mg "NoCartoon" "NoCartoon.__init__" s_NoCartoon_init ["self", "rule", "place"]
  no_rule : PySem.W.findIn K (.ref x_NoCartoon.C) "rule" = some none
  no_place : PySem.W.findIn K (.ref x_NoCartoon.C) "place" = some none
  x_TooLong : ExD K mg "TooLong" "TooLong.__init__" s_TooLong_init ["self", "lead"]
  no_lead : PySem.W.findIn K (.ref x_TooLong.C) "lead" = some none
end Lead
namespace Lead
open PySem PySem.Spec PyProof.Rows L2 Evl LeadT
section
variable {P : Program} {w : World} {K : PySem.W.Frag} {mg : Str → Option Value} {base : Heap}
/-! ### points -/
def spTurn (K : PySem.W.Frag) : Sp := fun vs H Q _ => ∃ (a b c : Addr) (p q r : Z2), vs = [.ref a, .ref b, .ref c] ∧ P2 K H a p ∧ P2 K H b q ∧ P2 K H c r ∧ (sml p ∧ sml q ∧ sml r) ∧ RetV (.int (tnZ p q r)) H Q
theorem ok_turn (T : Txt K mg) : FnOk P w K mg base CX0 1 T.turn.f T.turn.fd ["p", "q", "r"] (spTurn K) := by
  refine T.turn.F.ok sc_turn (fun vs H Q E h => ?_) (fun cdv A outer s H vs Q E hr h => ?_)
  · obtain ⟨a, b, c, p, q, r, rfl, _⟩ := h
    rfl
  · refine ⟨_, (pss_one (ps_ret (pe_op op_sub (pe_op op_mul (pe_op op_sub (pe_ix ix_tup (pv 1) pe_int (fun _ _ => rfl)) (pe_ix ix_tup (pv 0) pe_int (fun _ _ => rfl))) (pe_op op_sub (pe_ix ix_tup (pv 2) pe_int (fun _ _ => rfl)) (pe_ix ix_tup (pv 1) pe_int (fun _ _ => rfl)))) (pe_op op_mul (pe_op op_sub (pe_ix ix_tup (pv 1) pe_int (fun _ _ => rfl)) (pe_ix ix_tup (pv 0) pe_int (fun _ _ => rfl))) (pe_op op_sub (pe_ix ix_tup (pv 2) pe_int (fun _ _ => rfl)) (pe_ix ix_tup (pv 1) pe_int (fun _ _ => rfl))))))), ?_⟩
    obtain ⟨a, b, c, p, q, r, rfl, hp, hq, hr, ⟨⟨⟨p1, p2⟩, p3, p4⟩, ⟨⟨q1, q2⟩, q3, q4⟩, ⟨⟨r1, r2⟩, r3, r4⟩⟩, k⟩ := h
    refine s_ret (v := .int (tnZ p q r)) (ev_is ?_ rfl) fun H1 e => k H1 e
    (repeat' first | exact ev_c | exact ev_var rfl | exact ev_p0 (ev_var rfl) (by assumption) | exact ev_p1 (ev_var rfl) (by assumption) | refine ev_op ?_ ?_ rv_I0 | refine ev_op ?_ ?_ (rv_I ?_))
    all_goals exact .inl ⟨by omega, by omega⟩
theorem spv_turn {H : Hp} {a b c : Addr} {p q r : Z2} (hp : P2 K H a p) (hq : P2 K H b q) (hr : P2 K H c r) (h : sml p ∧ sml q ∧ sml r) : SpV (spTurn K) [.ref a, .ref b, .ref c] H (.int (tnZ p q r)) :=
  fun H1 e Q q' E => ⟨a, b, c, p, q, r, rfl, hp.mono e, hq.mono e, hr.mono e, h, q'⟩
def spOnward (K : PySem.W.Frag) : Sp := fun vs H Q _ => ∃ (a b c : Addr) (p q r : Z2), vs = [.ref a, .ref b, .ref c] ∧ P2 K H a p ∧ P2 K H b q ∧ P2 K H c r ∧ (sml p ∧ sml q ∧ sml r) ∧ RetV (.int (onZ p q r)) H Q
theorem ok_onward (T : Txt K mg) : FnOk P w K mg base CX0 1 T.onward.f T.onward.fd ["p", "v", "q"] (spOnward K) := by
  refine T.onward.F.ok sc_onward (fun vs H Q E h => ?_) (fun cdv A outer s H vs Q E hr h => ?_)
  · obtain ⟨a, b, c, p, q, r, rfl, _⟩ := h
    rfl
  · refine ⟨_, (pss_one (ps_ret (pe_op op_add (pe_op op_mul (pe_op op_sub (pe_ix ix_tup (pv 1) pe_int (fun _ _ => rfl)) (pe_ix ix_tup (pv 0) pe_int (fun _ _ => rfl))) (pe_op op_sub (pe_ix ix_tup (pv 2) pe_int (fun _ _ => rfl)) (pe_ix ix_tup (pv 1) pe_int (fun _ _ => rfl)))) (pe_op op_mul (pe_op op_sub (pe_ix ix_tup (pv 1) pe_int (fun _ _ => rfl)) (pe_ix ix_tup (pv 0) pe_int (fun _ _ => rfl))) (pe_op op_sub (pe_ix ix_tup (pv 2) pe_int (fun _ _ => rfl)) (pe_ix ix_tup (pv 1) pe_int (fun _ _ => rfl))))))), ?_⟩
    obtain ⟨a, b, c, p, q, r, rfl, hp, hq, hr, ⟨⟨⟨p1, p2⟩, p3, p4⟩, ⟨⟨q1, q2⟩, q3, q4⟩, ⟨⟨r1, r2⟩, r3, r4⟩⟩, k⟩ := h
    refine s_ret (v := .int (onZ p q r)) (ev_is ?_ rfl) fun H1 e => k H1 e
    (repeat' first | exact ev_c | exact ev_var rfl | exact ev_p0 (ev_var rfl) (by assumption) | exact ev_p1 (ev_var rfl) (by assumption) | refine ev_op ?_ ?_ rv_I0 | refine ev_op ?_ ?_ (rv_I ?_))
    all_goals exact .inl ⟨by omega, by omega⟩
theorem spv_onward {H : Hp} {a b c : Addr} {p q r : Z2} (hp : P2 K H a p) (hq : P2 K H b q) (hr : P2 K H c r) (h : sml p ∧ sml q ∧ sml r) : SpV (spOnward K) [.ref a, .ref b, .ref c] H (.int (onZ p q r)) :=
  fun H1 e Q q' E => ⟨a, b, c, p, q, r, rfl, hp.mono e, hq.mono e, hr.mono e, h, q'⟩
def spBetween : Sp := fun vs H Q _ => ∃ (a b c : Int), vs = [.int a, .int b, .int c] ∧ RetV (.bl (btw a b c)) H Q
theorem ev_min2 {σ : L2.St} {H : Hp} {ta tb : TE} {i j : Int} (ha : Ev ta σ H (.int i)) (hb : Ev tb σ H (.int j)) : Ev (tCB (fun xs H Q => ∃ i j, xs = [.int i, .int j] ∧ Q (.int (if j < i then j else i)) H) (tCons ta (tCons tb tNil))) σ H (.int (if j < i then j else i)) := fun H1 e Q q =>
  ha H1 e _ fun H2 e2 => hb H2 (e.trans e2) _ fun H3 e3 => ⟨i, j, rfl, q H3 (e2.trans e3)⟩
theorem ok_is_between (T : Txt K mg) : FnOk P w K mg base CX0 1 T.is_between.f T.is_between.fd ["one", "other", "number"] spBetween := by
  refine T.is_between.F.ok sc_is_between (fun vs H Q E h => ?_) (fun cdv A outer s H vs Q E hr h => ?_)
  · obtain ⟨a, b, c, rfl, _⟩ := h
    rfl
  · refine ⟨_, (pss_one (ps_ret (pe_chain op_le op_le (pe_callB (call_min2 rfl) (by rfl) T.n_min (by decide +kernel) (pa_cons (pv 0) (pa_cons (pv 1) pa_nil))) (pv 2) (pe_callB (call_max2 rfl) (by rfl) T.n_max (by decide +kernel) (pa_cons (pv 0) (pa_cons (pv 1) pa_nil)))))), ?_⟩
    obtain ⟨a, b, c, rfl, k⟩ := h
    refine s_ret (v := .bl (btw a b c)) (ev_is (ev_chain (ev_min2 (ev_var rfl) (ev_var rfl)) (ev_var rfl) rv_I0 (fun _ => ev_max2 (ev_var rfl) (ev_var rfl)) fun _ => rv_I0) rfl) fun H1 e => k H1 e
theorem spv_between {H : Hp} {a b c : Int} : SpV spBetween [.int a, .int b, .int c] H (.bl (btw a b c)) := fun H1 e Q q E => ⟨a, b, c, rfl, q⟩
def spIsOn (K : PySem.W.Frag) : Sp := fun vs H Q _ => ∃ (a b c : Addr) (p q r : Z2), vs = [.ref a, .ref b, .ref c] ∧ P2 K H a p ∧ P2 K H b q ∧ P2 K H c r ∧ (sml p ∧ sml q ∧ sml r) ∧ RetV (.bl (isOnZ p q r)) H Q
theorem ok_is_on (T : Txt K mg) : FnOk P w K mg base CX0 2 T.is_on.f T.is_on.fd ["p", "q", "r"] (spIsOn K) := by
  refine T.is_on.F.ok sc_is_on (fun vs H Q E h => ?_) (fun cdv A outer s H vs Q E hr h => ?_)
  · obtain ⟨a, b, c, p, q, r, rfl, _⟩ := h
    rfl
  · refine ⟨_, (pss_one (ps_ret (pe_and (pe_cmpR op_eq (pe_call (ok_turn T) (hr.mono (by decide)) rfl T.turn.g T.turn.F.kp T.turn.b .nil pass0 (pa_cons (pv 0) (pa_cons (pv 1) (pa_cons (pv 2) pa_nil)))) pe_int (nomark _)) (pe_and (pe_call (ok_is_between T) (hr.mono (by decide)) rfl T.is_between.g T.is_between.F.kp T.is_between.b .nil pass0 (pa_cons (pe_ix ix_tup (pv 0) pe_int (fun _ _ => rfl)) (pa_cons (pe_ix ix_tup (pv 1) pe_int (fun _ _ => rfl)) (pa_cons (pe_ix ix_tup (pv 2) pe_int (fun _ _ => rfl)) pa_nil)))) (pe_one (pe_call (ok_is_between T) (hr.mono (by decide)) rfl T.is_between.g T.is_between.F.kp T.is_between.b .nil pass0 (pa_cons (pe_ix ix_tup (pv 0) pe_int (fun _ _ => rfl)) (pa_cons (pe_ix ix_tup (pv 1) pe_int (fun _ _ => rfl)) (pa_cons (pe_ix ix_tup (pv 2) pe_int (fun _ _ => rfl)) pa_nil))))))))), ?_⟩
    obtain ⟨a, b, c, p, q, r, rfl, hp, hq, hr, hb, k⟩ := h
    refine s_ret (v := .bl (isOnZ p q r)) (ev_is (ev_andV (ev_op (ev_call (ea_cons (ev_var rfl) (ea_cons (ev_var rfl) (ea_cons (ev_var rfl) ea_nil))) (spv_turn hp hq hr hb)) ev_c (rv_eq rfl))
      fun _ => ev_andV (ev_call (ea_cons (ev_p0 (ev_var rfl) hp) (ea_cons (ev_p0 (ev_var rfl) hq) (ea_cons (ev_p0 (ev_var rfl) hr) ea_nil))) spv_between)
      fun _ => (ev_call (ea_cons (ev_p1 (ev_var rfl) hp) (ea_cons (ev_p1 (ev_var rfl) hq) (ea_cons (ev_p1 (ev_var rfl) hr) ea_nil))) spv_between)) ?_) fun H1 e => k H1 e
    simp [isOnZ]
theorem spv_is_on {H : Hp} {a b c : Addr} {p q r : Z2} (hp : P2 K H a p) (hq : P2 K H b q) (hr : P2 K H c r) (h : sml p ∧ sml q ∧ sml r) : SpV (spIsOn K) [.ref a, .ref b, .ref c] H (.bl (isOnZ p q r)) :=
  fun H1 e Q q' E => ⟨a, b, c, p, q, r, rfl, hp.mono e, hq.mono e, hr.mono e, h, q'⟩
def spApart : Sp := fun vs H Q _ => ∃ (a b : Int), vs = [.int a, .int b] ∧ RetV (.bl (apartZ a b)) H Q
theorem ok_are_apart (T : Txt K mg) : FnOk P w K mg base CX0 1 T.are_apart.f T.are_apart.fd ["one", "other"] spApart := by
  refine T.are_apart.F.ok sc_are_apart (fun vs H Q E h => ?_) (fun cdv A outer s H vs Q E hr h => ?_)
  · obtain ⟨a, b, rfl, _⟩ := h
    rfl
  · refine ⟨_, (pss_one (ps_ret (pe_or (pe_and (pe_cmpR op_gt (pv 0) pe_int (nomark _)) (pe_one (pe_cmpR op_lt (pv 1) pe_int (nomark _)))) (pe_one (pe_and (pe_cmpR op_lt (pv 0) pe_int (nomark _)) (pe_one (pe_cmpR op_gt (pv 1) pe_int (nomark _)))))))), ?_⟩
    obtain ⟨a, b, rfl, k⟩ := h
    refine s_ret (v := .bl (apartZ a b)) (ev_is (ev_orV (ev_andV (ev_op (ev_var rfl) ev_c rv_I0) fun _ => (ev_op (ev_var rfl) ev_c rv_I0)) fun _ => (ev_andV (ev_op (ev_var rfl) ev_c rv_I0) fun _ => (ev_op (ev_var rfl) ev_c rv_I0))) rfl) fun H1 e => k H1 e
theorem spv_apart {H : Hp} {a b : Int} : SpV spApart [.int a, .int b] H (.bl (apartZ a b)) := fun H1 e Q q E => ⟨a, b, rfl, q⟩
def spCross (K : PySem.W.Frag) : Sp := fun vs H Q _ => ∃ (a b c d : Addr) (p q r s : Z2), vs = [.ref a, .ref b, .ref c, .ref d] ∧ P2 K H a p ∧ P2 K H b q ∧ P2 K H c r ∧ P2 K H d s ∧ (sml p ∧ sml q ∧ sml r ∧ sml s) ∧ RetV (.bl (crossZ p q r s)) H Q
theorem ok_cross (T : Txt K mg) : FnOk P w K mg base CX0 2 T.cross.f T.cross.fd ["p", "q", "r", "s"] (spCross K) := by
  refine T.cross.F.ok sc_cross (fun vs H Q E h => ?_) (fun cdv A outer s H vs Q E hr h => ?_)
  · obtain ⟨a, b, c, d, p, q, r, s, rfl, _⟩ := h
    rfl
  · refine ⟨_, (pss_one (ps_ret (pe_and (pe_call (ok_are_apart T) (hr.mono (by decide)) rfl T.are_apart.g T.are_apart.F.kp T.are_apart.b .nil pass0 (pa_cons (pe_call (ok_turn T) (hr.mono (by decide)) rfl T.turn.g T.turn.F.kp T.turn.b .nil pass0 (pa_cons (pv 0) (pa_cons (pv 1) (pa_cons (pv 2) pa_nil)))) (pa_cons (pe_call (ok_turn T) (hr.mono (by decide)) rfl T.turn.g T.turn.F.kp T.turn.b .nil pass0 (pa_cons (pv 0) (pa_cons (pv 1) (pa_cons (pv 3) pa_nil)))) pa_nil))) (pe_one (pe_call (ok_are_apart T) (hr.mono (by decide)) rfl T.are_apart.g T.are_apart.F.kp T.are_apart.b .nil pass0 (pa_cons (pe_call (ok_turn T) (hr.mono (by decide)) rfl T.turn.g T.turn.F.kp T.turn.b .nil pass0 (pa_cons (pv 2) (pa_cons (pv 3) (pa_cons (pv 0) pa_nil)))) (pa_cons (pe_call (ok_turn T) (hr.mono (by decide)) rfl T.turn.g T.turn.F.kp T.turn.b .nil pass0 (pa_cons (pv 2) (pa_cons (pv 3) (pa_cons (pv 1) pa_nil)))) pa_nil))))))), ?_⟩
    obtain ⟨a, b, c, d, p, q, r, s, rfl, hp, hq, hr, hs, ⟨bp, bq, br, bs⟩, k⟩ := h
    refine s_ret (v := .bl (crossZ p q r s)) (ev_is (ev_andV
      (ev_call (ea_cons (ev_call (ea_cons (ev_var rfl) (ea_cons (ev_var rfl) (ea_cons (ev_var rfl) ea_nil))) (spv_turn hp hq hr ⟨bp, bq, br⟩)) (ea_cons (ev_call (ea_cons (ev_var rfl) (ea_cons (ev_var rfl) (ea_cons (ev_var rfl) ea_nil))) (spv_turn hp hq hs ⟨bp, bq, bs⟩)) ea_nil)) spv_apart)
      fun _ => (ev_call (ea_cons (ev_call (ea_cons (ev_var rfl) (ea_cons (ev_var rfl) (ea_cons (ev_var rfl) ea_nil))) (spv_turn hr hs hp ⟨br, bs, bp⟩)) (ea_cons (ev_call (ea_cons (ev_var rfl) (ea_cons (ev_var rfl) (ea_cons (ev_var rfl) ea_nil))) (spv_turn hr hs hq ⟨br, bs, bq⟩)) ea_nil)) spv_apart)) rfl) fun H1 e => k H1 e
theorem spv_cross {H : Hp} {a b c d : Addr} {p q r s : Z2} (hp : P2 K H a p) (hq : P2 K H b q) (hr : P2 K H c r) (hs : P2 K H d s) (h : sml p ∧ sml q ∧ sml r ∧ sml s) : SpV (spCross K) [.ref a, .ref b, .ref c, .ref d] H (.bl (crossZ p q r s)) :=
  fun H1 e Q q' E => ⟨a, b, c, d, p, q, r, s, rfl, hp.mono e, hq.mono e, hr.mono e, hs.mono e, h, q'⟩
def spBehind (K : PySem.W.Frag) : Sp := fun vs H Q _ => ∃ (a b : Addr) (p q : Z2), vs = [.ref a, .ref b] ∧ P2 K H a p ∧ P2 K H b q ∧ RetV (.bl (behindZ p q)) H Q
theorem ok_comes_behind (T : Txt K mg) : FnOk P w K mg base CX0 1 T.comes_behind.f T.comes_behind.fd ["one", "other"] (spBehind K) := by
  refine T.comes_behind.F.ok sc_comes_behind (fun vs H Q E h => ?_) (fun cdv A outer s H vs Q E hr h => ?_)
  · obtain ⟨a, b, p, q, rfl, _⟩ := h
    rfl
  · refine ⟨_, (pss_one (ps_ret (pe_cmpR (op_gtT (hu0 hr)) (pe_tup (pa_cons (pe_ix ix_tup (pv 0) pe_int (fun _ _ => rfl)) (pa_cons (pe_ix ix_tup (pv 0) pe_int (fun _ _ => rfl)) pa_nil))) (pe_tup (pa_cons (pe_ix ix_tup (pv 1) pe_int (fun _ _ => rfl)) (pa_cons (pe_ix ix_tup (pv 1) pe_int (fun _ _ => rfl)) pa_nil))) (nomark _)))), ?_⟩
    obtain ⟨a, b, p, q, rfl, hp, hq, k⟩ := h
    refine s_ret (v := .bl (behindZ p q)) (ev_opUU (eu_tup (ea_cons (ev_p1 (ev_var rfl) hp) (ea_cons (ev_p0 (ev_var rfl) hp) ea_nil)) (by show 2 ≤ 100000; decide)) (eu_tup (ea_cons (ev_p1 (ev_var rfl) hq) (ea_cons (ev_p0 (ev_var rfl) hq) ea_nil)) (by show 2 ≤ 100000; decide))
      fun u v H1 hu hv e => fun H2 e2 Q q' => ⟨u, v, [p.2, p.1], [q.2, q.1], rfl, rfl, st_of (e2 _ _ hu), st_of (e2 _ _ hv), q' H2 (Ex.refl H2)⟩) fun H1 e => k H1 e
theorem spv_behind {H : Hp} {a b : Addr} {p q : Z2} (hp : P2 K H a p) (hq : P2 K H b q) : SpV (spBehind K) [.ref a, .ref b] H (.bl (behindZ p q)) :=
  fun H1 e Q q' E => ⟨a, b, p, q, rfl, hp.mono e, hq.mono e, q'⟩
end
end Lead
namespace Lead
open PySem PySem.Spec PyProof.Rows L2 Evl LeadT
section
variable {P : Program} {w : World} {K : PySem.W.Frag} {mg : Str → Option Value} {base : Heap}
/-! ### errors -/
/-- an error of the class at C leaves with these fields -/
def ExcP (C : Addr) (fs : List (Str × V)) (H : Hp) (E : XK) : Prop := ∀ (d : Addr) (H' : Hp), Ex H H' → H d = none → H' d = some (.xd fs) → E (.ref C) (some d) H'
theorem ExcP.mono {C : Addr} {fs : List (Str × V)} {H H' : Hp} {E : XK} (h : ExcP C fs H E) (e : Ex H H') : ExcP C fs H' E := fun d H2 e2 hd hx => h d H2 (e.trans e2) (fresh_back e hd) hx
def noF (r p : Int) : List (Str × V) := [("place", .int p), ("rule", .int r)]
def spNoInit (C : Addr) : Sp := fun vs H Q _ => ∃ (a : Addr) (r p : Int), vs = [.ref a, .int r, .int p] ∧ H a = some (exo a C none) ∧
  ∀ (d : Addr) (H' : Hp), d ≠ a → H d = none → (∀ b, b ≠ a → b ≠ d → H' b = H b) → H' a = some (exo a C (some d)) → H' d = some (exd d (noF r p)) → Q .non H'
theorem ok_NoCartoon_init (T : Txt K mg) : FnOk P w K mg base CX0 1 T.x_NoCartoon.init.f T.x_NoCartoon.init.fd ["self", "rule", "place"] (spNoInit T.x_NoCartoon.C) := by
  refine T.x_NoCartoon.init.F.ok sc_NoCartoon_init (fun vs H Q E h => ?_) (fun cdv A outer s H vs Q E hr h => ?_)
  · obtain ⟨a, r, p, rfl, _⟩ := h
    rfl
  · refine ⟨_, (pss_cons (ps_ost (pv 0) (pv 1))
    (pss_one (ps_ost (pv 0) (pv 2)))), ?_⟩
    obtain ⟨a, r, p, rfl, ha, k⟩ := h
    refine ⟨_, rfl, _, rfl, a, T.x_NoCartoon.C, rfl, T.x_NoCartoon.ox, T.no_rule, .inl ⟨ha, fun d hd da => ?_⟩⟩
    refine ⟨_, rfl, _, rfl, a, T.x_NoCartoon.C, rfl, T.x_NoCartoon.ox, T.no_place, .inr ⟨d, [("rule", .int r)], upd_same, ?_, (by show 1 ≤ 900; decide), ?_⟩⟩
    · rw [upd_ne da, upd_same]
    · refine k d _ da hd (fun b h1 h2 => ?_) ?_ upd_same
      · rw [upd_ne h2, upd_ne h1, upd_ne h2]
      · rw [upd_ne (Ne.symm da), upd_same]
def spAsk (C : Addr) : Sp := fun vs H Q E => ∃ (b : Bool) (r p : Int), vs = [.bl b, .int r, .int p] ∧ (b = true → RetV .non H Q) ∧ (b = false → ExcP C (noF r p) H E)
theorem ok_ask (T : Txt K mg) : FnOk P w K mg base (L2.CX P w) 3 T.ask.f T.ask.fd ["holds", "rule", "place"] (spAsk T.x_NoCartoon.C) := by
  refine T.ask.F.okX sc_ask (fun vs H Q E h => ?_) (fun cdv A outer s H vs Q E hr h => ?_)
  · obtain ⟨b, r, p, rfl, _⟩ := h
    rfl
  · refine ⟨_, (pss_one (ps_if (pt_not (pt_val (pv 0))) (pss_one (ps_raise rfl (takes_of rfl rfl rfl rfl) (pmk_oex T.x_NoCartoon.ox T.x_NoCartoon.iC T.x_NoCartoon.tI (ok_NoCartoon_init T) (hr.mono (by decide)) T.x_NoCartoon.init.b .nil pass0 rfl T.x_NoCartoon.g (pa_cons (pv 1) (pa_cons (pv 2) pa_nil))))) pss_nil)), ?_⟩
    obtain ⟨b, r, p, rfl, k1, k2⟩ := h
    refine s_if (et_not (ev_tru (ev_var rfl))) (fun hb H1 e => ?_) (fun hb H1 e => ?_)
    · have hb : b = false := by simpa using hb
      refine ⟨_, rfl, _, rfl, (by show 2 ≤ 1000; decide), fun a ha => ?_⟩
      refine ⟨a, r, p, rfl, upd_same, fun d H' da hd hk h1 h2 => ⟨rfl, d, _, h1, h2, ?_, ?_⟩⟩
      · rw [upd_ne da] at hd
        exact hd
      · rw [upd_ne da] at hd
        refine k2 hb d _ (fun b o q => ?_) (fresh_back e hd) upd_same
        have q1 := e b o q
        rw [upd_ne (ne_of_none q1 hd), del_ne (ne_of_none q1 ha), hk b (ne_of_none q1 ha) (ne_of_none q1 hd), upd_ne (ne_of_none q1 ha)]
        exact q1
    · have hb : b = true := by simpa using hb
      exact k1 hb H1 e
end
end Lead
namespace Lead
open PySem PySem.Spec PyProof.Rows L2 Evl LeadT
/-! ### bytes, the drawing's object -/
/-- bytes as a list of ints -/
def bz (b : List UInt8) : List V := b.map fun c => V.int ((c.toNat : Nat) : Int)
theorem numLe_snoc : ∀ (l : List UInt8) (c : UInt8), GlaBase.numLe (l ++ [c]) = GlaBase.numLe l + 256 ^ l.length * c.toNat
  | [], c => by simp [GlaBase.numLe]
  | d :: l, c => by
    rw [List.cons_append]
    unfold GlaBase.numLe
    rw [numLe_snoc l c, List.length_cons, Nat.pow_succ, Nat.mul_add, Nat.mul_comm (256 ^ l.length) 256, Nat.mul_assoc]
    omega
theorem num_succ {b : List UInt8} {p i : Nat} {c : UInt8} (h : b[p + i]? = some c) : GlaBase.num b p (i + 1) = GlaBase.num b p i + 256 ^ i * c.toNat := by
  unfold GlaBase.num
  have hl := (List.getElem?_eq_some_iff.mp h).1
  have e : ((b.drop p).take (i + 1)) = (b.drop p).take i ++ [c] := by
    rw [List.take_add_one, List.getElem?_drop, h]
    rfl
  rw [e, numLe_snoc, List.length_take, List.length_drop, Nat.min_eq_left (by omega)]
theorem num_lt : ∀ (l : List UInt8), GlaBase.numLe l < 256 ^ l.length
  | [] => by simp [GlaBase.numLe]
  | d :: l => by
    have ih := num_lt l
    unfold GlaBase.numLe
    rw [List.length_cons, Nat.pow_succ]
    have := UInt8.toNat_lt d
    omega
theorem num_bound (b : List UInt8) (p w : Nat) : GlaBase.num b p w < 256 ^ w := by
  unfold GlaBase.num
  have := num_lt ((b.drop p).take w)
  have h2 : ((b.drop p).take w).length ≤ w := by rw [List.length_take]; omega
  exact Nat.lt_of_lt_of_le this (Nat.pow_le_pow_right (by decide) h2)
section
variable {P : Program} {w : World} {K : PySem.W.Frag} {mg : Str → Option Value} {base : Heap}
def spNumber (K : PySem.W.Frag) : Sp := fun vs H Q _ => ∃ (d : Addr) (b : List UInt8) (p m : Nat), vs = [.ref d, .int (p : Int), .int (m : Int)] ∧ SqL K H d (bz b) ∧ p + m ≤ b.length ∧ m ≤ 4 ∧ RetV (.int (GlaBase.num b p m : Int)) H Q
theorem ok_number_at (T : Txt K mg) : FnOk P w K mg base CX0 1 T.number_at.f T.number_at.fd ["data", "at", "many"] (spNumber K) := by
  refine T.number_at.F.ok sc_number_at (fun vs H Q E h => ?_) (fun cdv A outer s H vs Q E hr h => ?_)
  · obtain ⟨d, b, p, m, rfl, _⟩ := h
    rfl
  · refine ⟨_, (pss_cons (ps_set (i := 3) sc_number_at.nd rfl (.inl rfl) pe_int)
    (pss_cons (ps_for PassesOwn.never rfl (pi_range1 rfl T.n_range (pa_cons (pv 2) pa_nil)) (pg_name (i := 4) sc_number_at.nd rfl (Or.inl rfl)) (pss_one (ps_set (i := 3) sc_number_at.nd rfl (.inl rfl) (pe_op op_add (pv 3) (pe_op op_shl (pe_ix ix_list (pv 0) (pe_op op_add (pv 1) (pv 4)) (fun _ _ => rfl)) (pe_op op_mul pe_int (pv 4)))))))
    (pss_one (ps_ret (pv 3))))), ?_⟩
    obtain ⟨d, b, p, m, rfl, hd, hl, hm, k⟩ := h
    refine q_asg ev_c fun H1 e1 => ?_
    refine q_forR1 (n := (m : Int)) (ea_cons (ev_var rfl) ea_nil) (by omega) (fun i σ' H' => Ex H H' ∧ ∃ v, σ' = [some (.ref d), some (.int p), some (.int m), some (.int (GlaBase.num b p i : Int)), v]) (fun H2 e2 => ⟨e1.trans e2, none, rfl⟩) ?_ ?_
    · rintro i σ' H' hi ⟨e, v, rfl⟩
      have lt : p + i < b.length := by omega
      have hb : b[p + i]? = some b[p + i] := List.getElem?_eq_getElem lt
      have e3 := num_succ hb
      have hz : (bz b)[p + i]? = some (.int ((b[p + i].toNat : Nat) : Int)) := by
        unfold bz
        rw [List.getElem?_map, hb]
        rfl
      have small := UInt8.toNat_lt b[p + i]
      refine s_asg (v := .int (GlaBase.num b p (i + 1) : Int)) (ev_is (ev_op (ev_var rfl) (ev_op (ev_op (ev_var rfl) (ev_op (ev_var rfl) (ev_var rfl) rv_I0) (rv_ixL (ex_l e hd) (at_of (j := p + i) (by omega) hz))) (ev_op ev_c (ev_var rfl) (rv_I (.inl ⟨by decide, by decide⟩))) (rv_I ⟨by omega, by omega, by omega⟩)) rv_I0) ?_) fun H2 e2 => ⟨e.trans e2, some (.int i), rfl⟩
      have e4 : ((8 : Int) * (i : Int)).toNat = 8 * i := by omega
      show V.int _ = V.int _
      have p2 : ((2 : Int) ^ (8 * i)) = ((256 ^ i : Nat) : Int) := by
        rw [Int.pow_mul]
        simp
      rw [e3, e4, p2, Int.natCast_add, Int.natCast_mul, Int.mul_comm (((256 ^ i : Nat)) : Int)]
    · rintro σ' H' ⟨e, v, rfl⟩
      exact s_ret (ev_var rfl) fun H2 e2 => k H2 (e.trans e2)
theorem spv_number {H : Hp} {d : Addr} {b : List UInt8} {p m : Nat} {pz mz : Int} (hd : SqL K H d (bz b)) (hl : p + m ≤ b.length) (hm : m ≤ 4) (ep : pz = (p : Int)) (em : mz = (m : Int)) : SpV (spNumber K) [.ref d, .int pz, .int mz] H (.int (GlaBase.num b p m : Int)) :=
  fun H1 e Q q E => ⟨d, b, p, m, by rw [ep, em], ex_l e hd, hl, hm, q⟩
end
end Lead
namespace Lead
open PySem PySem.Spec PyProof.Rows L2 Evl LeadT
/-! ### the drawing -/
theorem lkHere {k : Str} {v : V} {r : List (Str × V)} : List.lookup k ((k, v) :: r) = some v := by
  simp only [List.lookup, beq_self_eq_true]
theorem lkPast {k g : Str} {v : V} {r : List (Str × V)} (h : (k == g) = false) : List.lookup k ((g, v) :: r) = List.lookup k r := by
  simp only [List.lookup, h]
theorem putHere {f : Str} {v x : V} {r : List (Str × V)} : putF f v ((f, x) :: r) = (f, v) :: r := if_pos rfl
theorem putPast {f g : Str} {v x : V} {r : List (Str × V)} (h : ¬ g = f) : putF f v ((g, x) :: r) = (g, x) :: putF f v r := if_neg h
/-- the fields of a drawing -/
def dF (sz w h : Int) (c l1 l2 l3 : Addr) : List (Str × V) := [("size", .int sz), ("width", .int w), ("height", .int h), ("counts", .ref c), ("points", .ref l1), ("lines", .ref l2), ("marks", .ref l3)]
section
variable {sz w h : Int} {c l1 l2 l3 : Addr}
theorem dF_size : (dF sz w h c l1 l2 l3).lookup ("size" : Str) = some (.int sz) := lkHere
theorem dF_width : (dF sz w h c l1 l2 l3).lookup ("width" : Str) = some (.int w) := (lkPast (by decide +kernel)).trans lkHere
theorem dF_height : (dF sz w h c l1 l2 l3).lookup ("height" : Str) = some (.int h) := (lkPast (by decide +kernel)).trans ((lkPast (by decide +kernel)).trans lkHere)
theorem dF_counts : (dF sz w h c l1 l2 l3).lookup ("counts" : Str) = some (.ref c) := (lkPast (by decide +kernel)).trans ((lkPast (by decide +kernel)).trans ((lkPast (by decide +kernel)).trans lkHere))
theorem dF_points : (dF sz w h c l1 l2 l3).lookup ("points" : Str) = some (.ref l1) := (lkPast (by decide +kernel)).trans ((lkPast (by decide +kernel)).trans ((lkPast (by decide +kernel)).trans ((lkPast (by decide +kernel)).trans lkHere)))
theorem dF_lines : (dF sz w h c l1 l2 l3).lookup ("lines" : Str) = some (.ref l2) := (lkPast (by decide +kernel)).trans ((lkPast (by decide +kernel)).trans ((lkPast (by decide +kernel)).trans ((lkPast (by decide +kernel)).trans ((lkPast (by decide +kernel)).trans lkHere))))
theorem dF_marks : (dF sz w h c l1 l2 l3).lookup ("marks" : Str) = some (.ref l3) := (lkPast (by decide +kernel)).trans ((lkPast (by decide +kernel)).trans ((lkPast (by decide +kernel)).trans ((lkPast (by decide +kernel)).trans ((lkPast (by decide +kernel)).trans ((lkPast (by decide +kernel)).trans lkHere)))))
theorem dF_no {f : Str} (h0 : (f == ("size" : Str)) = false := by decide +kernel) (h1 : (f == ("width" : Str)) = false := by decide +kernel) (h2 : (f == ("height" : Str)) = false := by decide +kernel) (h3 : (f == ("counts" : Str)) = false := by decide +kernel)
    (h4 : (f == ("points" : Str)) = false := by decide +kernel) (h5 : (f == ("lines" : Str)) = false := by decide +kernel) (h6 : (f == ("marks" : Str)) = false := by decide +kernel) : (dF sz w h c l1 l2 l3).lookup f = none :=
  (lkPast h0).trans ((lkPast h1).trans ((lkPast h2).trans ((lkPast h3).trans ((lkPast h4).trans ((lkPast h5).trans ((lkPast h6).trans rfl))))))
theorem putNew {f : Str} {v : V} : ∀ (fs : List (Str × V)) (ks : List Str), fs.map Prod.fst = ks → ks.all (fun g => !decide (g = f)) = true → putF f v fs = fs ++ [(f, v)]
  | [], _, _, _ => rfl
  | (g, x) :: r, ks, hk, h => by
    subst hk
    rw [List.map_cons, List.all_cons, Bool.and_eq_true] at h
    have n : ¬ g = f := by simpa using h.1
    rw [putPast n, putNew r _ rfl h.2]
    rfl
theorem dF_new : putF "marks" (.ref l3) (putF "lines" (.ref l2) (putF "points" (.ref l1) (putF "counts" (.ref c) (putF "height" (.int h) (putF "width" (.int w) (putF "size" (.int sz) [])))))) = dF sz w h c l1 l2 l3 := by
  rw [putNew (f := "size") [] [] rfl rfl, List.nil_append]
  rw [putNew (f := "width") [(("size" : Str), V.int sz)] ["size"] rfl (by decide +kernel)]
  show putF "marks" _ (putF "lines" _ (putF "points" _ (putF "counts" _ (putF "height" _ [(("size" : Str), V.int sz), ("width", .int w)])))) = _
  rw [putNew (f := "height") _ ["size", "width"] rfl (by decide +kernel)]
  show putF "marks" _ (putF "lines" _ (putF "points" _ (putF "counts" _ [(("size" : Str), V.int sz), ("width", .int w), ("height", .int h)]))) = _
  rw [putNew (f := "counts") _ ["size", "width", "height"] rfl (by decide +kernel)]
  show putF "marks" _ (putF "lines" _ (putF "points" _ [(("size" : Str), V.int sz), ("width", .int w), ("height", .int h), ("counts", .ref c)])) = _
  rw [putNew (f := "points") _ ["size", "width", "height", "counts"] rfl (by decide +kernel)]
  show putF "marks" _ (putF "lines" _ [(("size" : Str), V.int sz), ("width", .int w), ("height", .int h), ("counts", .ref c), ("points", .ref l1)]) = _
  rw [putNew (f := "lines") _ ["size", "width", "height", "counts", "points"] rfl (by decide +kernel)]
  show putF "marks" _ [(("size" : Str), V.int sz), ("width", .int w), ("height", .int h), ("counts", .ref c), ("points", .ref l1), ("lines", .ref l2)] = _
  rw [putNew (f := "marks") _ ["size", "width", "height", "counts", "points", "lines"] rfl (by decide +kernel)]
  rfl
end
/-- a list of points -/
def PtL (K : PySem.W.Frag) (H : Hp) (l : Addr) (ps : List Z2) : Prop := ∃ as : List Addr, SqL K H l (as.map V.ref) ∧ as.length = ps.length ∧ ∀ (i : Nat) (a : Addr) (p : Z2), as[i]? = some a → ps[i]? = some p → P2 K H a p
theorem PtL.mono {K : PySem.W.Frag} {H H' : Hp} {l : Addr} {ps : List Z2} (h : PtL K H l ps) (e : Ex H H') : PtL K H' l ps := by
  obtain ⟨as, h1, h2, h3⟩ := h
  exact ⟨as, ex_l e h1, h2, fun i a p x y => (h3 i a p x y).mono e⟩
theorem PtL.at_ {K : PySem.W.Frag} {H : Hp} {l : Addr} {ps : List Z2} {as : List Addr} (h2 : as.length = ps.length) (h3 : ∀ (i : Nat) (a : Addr) (p : Z2), as[i]? = some a → ps[i]? = some p → P2 K H a p) {i : Nat} {p : Z2} (hp : ps[i]? = some p) :
    ∃ a, (as.map V.ref)[i]? = some (.ref a) ∧ P2 K H a p := by
  have lt := (List.getElem?_eq_some_iff.mp hp).1
  have ha : as[i]? = some as[i] := List.getElem?_eq_getElem (by omega)
  exact ⟨as[i], by rw [List.getElem?_map, ha]; rfl, h3 i _ p ha hp⟩
def ptZ (p : GlaPlan.Pt) : Z2 := ((p.x : Int), (p.y : Int))
def lnZ (l : Nat × Nat) : Z2 := ((l.1 : Int), (l.2 : Int))
def mkZ (m : GlaPlan.Mark) : Z2 := ptZ m.at_
/-- a drawing whose counts are told -/
def DCt (K : PySem.W.Frag) (C : Addr) (H : Hp) (a : Addr) (sz w h n1 n2 n3 : Nat) : Prop := ∃ dx c l1 l2 l3, H a = some (.ins C dx (dF sz w h c l1 l2 l3)) ∧ SqL K H c [.int (n1 : Int), .int (n2 : Int), .int (n3 : Int)]
/-- a drawing with all that stands in it -/
structure DAt (K : PySem.W.Frag) (C : Addr) (H : Hp) (a dx c l1 l2 l3 : Addr) (sz : Nat) (S : GlaPlan.Plan) : Prop where
  ob : H a = some (.ins C dx (dF sz S.w S.h c l1 l2 l3))
  cs : SqL K H c [.int (S.pts.length : Int), .int (S.lines.length : Int), .int (S.marks.length : Int)]
  ps : PtL K H l1 (S.pts.map ptZ)
  ls : PtL K H l2 (S.lines.map lnZ)
  ms : PtL K H l3 (S.marks.map mkZ)
def Dw (K : PySem.W.Frag) (C : Addr) (H : Hp) (a : Addr) (sz : Nat) (S : GlaPlan.Plan) : Prop := ∃ dx c l1 l2 l3, DAt K C H a dx c l1 l2 l3 sz S
section
variable {K : PySem.W.Frag} {C a dx c l1 l2 l3 : Addr} {H H' : Hp} {sz w h n1 n2 n3 : Nat} {S : GlaPlan.Plan} {σ : L2.St} {ta tb : TE}
theorem DCt.mono (D : DCt K C H a sz w h n1 n2 n3) (e : Ex H H') : DCt K C H' a sz w h n1 n2 n3 := by
  obtain ⟨dx, c, l1, l2, l3, h1, h2⟩ := D
  exact ⟨dx, c, l1, l2, l3, e _ _ h1, ex_l e h2⟩
theorem DAt.mono (D : DAt K C H a dx c l1 l2 l3 sz S) (e : Ex H H') : DAt K C H' a dx c l1 l2 l3 sz S := ⟨e _ _ D.ob, ex_l e D.cs, D.ps.mono e, D.ls.mono e, D.ms.mono e⟩
theorem Dw.mono (D : Dw K C H a sz S) (e : Ex H H') : Dw K C H' a sz S := by
  obtain ⟨dx, c, l1, l2, l3, D⟩ := D
  exact ⟨dx, c, l1, l2, l3, D.mono e⟩
theorem Dw.ct (D : Dw K C H a sz S) : DCt K C H a sz S.w S.h S.pts.length S.lines.length S.marks.length := by
  obtain ⟨dx, c, l1, l2, l3, D⟩ := D
  exact ⟨dx, c, l1, l2, l3, D.ob, D.cs⟩
/-- a field -/
theorem ev_fld {v : V} {f : Str} {fs : List (Str × V)} (ha : Ev ta σ H (.ref a)) (ho : H a = some (.ins C dx fs)) (hc : Cls K C) (hn : NoAttr K C f) (hl : fs.lookup f = some v) : Ev (tFld K ta f) σ H v := fun H1 e Q q =>
  ha H1 e _ fun H2 e2 => ⟨a, C, dx, fs, v, rfl, (e.trans e2) _ _ ho, hc, hn, hl, q H2 e2⟩
/-- an item of a list of points -/
theorem ev_pt {l : Addr} {ps : List Z2} {i : Nat} {p : Z2} {iz : Int} (hl : Ev ta σ H (.ref l)) (hi : Ev tb σ H (.int iz)) (ez : iz = (i : Int)) (hp : PtL K H l ps) (hx : ps[i]? = some p) : ∃ q, P2 K H q p ∧ Ev (tOp (rIxL K) ta tb) σ H (.ref q) := by
  obtain ⟨as, h1, h2, h3⟩ := hp
  obtain ⟨q, hq, hz⟩ := PtL.at_ (l := l) h2 h3 hx
  exact ⟨q, hz, ev_op hl hi (rv_ixL h1 (at_of ez hq))⟩
/-- a method's call -/
theorem ev_meth {m : Str} {sp : Sp} {E : XK} {t : TA} {fs : List (Str × V)} {vs : List V} {z : V} (ha : Ev ta σ H (.ref a)) (ho : H a = some (.ins C dx fs)) (hm : fs.lookup m = none) (ht : EvA t σ H vs) (hs : SpV sp (.ref a :: vs) H z) : Ev (tMeth C m sp [] E ta t) σ H z := fun H1 e Q q =>
  ha H1 e _ fun H2 e2 => ⟨a, dx, fs, rfl, (e.trans e2) _ _ ho, hm, ht H2 (e.trans e2) _ fun H3 e3 => by
    rw [List.append_nil]
    exact hs H3 ((e.trans e2).trans e3) Q (fun H4 e4 => q H4 ((e2.trans e3).trans e4)) E⟩
end
section
variable {P : Program} {w : World} {K : PySem.W.Frag} {mg : Str → Option Value} {base : Heap}
/-- a method that gives a number of the counts -/
def spCt (K : PySem.W.Frag) (C : Addr) (g : Nat → Nat → Nat → Nat) : Sp := fun vs H Q _ => ∃ (a : Addr) (sz w h n1 n2 n3 : Nat), vs = [.ref a] ∧ DCt K C H a sz w h n1 n2 n3 ∧ RetV (.int (g n1 n2 n3 : Int)) H Q
theorem spv_ct {C : Addr} {g : Nat → Nat → Nat → Nat} {H : Hp} {a : Addr} {sz w h n1 n2 n3 : Nat} (D : DCt K C H a sz w h n1 n2 n3) : SpV (spCt K C g) [.ref a] H (.int (g n1 n2 n3 : Int)) := fun H1 e Q q E => ⟨a, sz, w, h, n1, n2, n3, rfl, D.mono e, q⟩
abbrev gLine : Nat → Nat → Nat → Nat := fun n1 _ _ => 20 + 8 * n1
abbrev gMark : Nat → Nat → Nat → Nat := fun n1 n2 _ => 20 + 8 * n1 + 4 * n2
abbrev gWhole : Nat → Nat → Nat → Nat := fun n1 n2 n3 => 20 + 8 * n1 + 4 * n2 + 12 * n3
theorem ok_Drawing_line_base (T : Txt K mg) : FnOk P w K mg base CX0 1 T.Drawing.line_base.f T.Drawing.line_base.fd ["self"] (spCt K T.Drawing.C gLine) := by
  refine T.Drawing.line_base.F.ok sc_Drawing_line_base (fun vs H Q E h => ?_) (fun cdv A outer s H vs Q E hr h => ?_)
  · obtain ⟨a, sz, w, h, n1, n2, n3, rfl, _⟩ := h
    rfl
  · refine ⟨_, (pss_one (ps_ret (pe_op op_add (pe_glob (v := .int (20)) rfl T.c_HEAD.choose_spec ⟨_, rfl⟩) (pe_op op_mul (pe_glob (v := .int (8)) rfl T.c_POINT_BYTES.choose_spec ⟨_, rfl⟩) (pe_ix ix_list (pe_fld (pv 0) rfl) pe_int (fun _ _ => rfl)))))), ?_⟩
    obtain ⟨a, sz, w, h, n1, n2, n3, rfl, ⟨dx, c, l1, l2, l3, h1, h2⟩, k⟩ := h
    exact s_ret (ev_is (ev_op ev_c (ev_op ev_c (ev_op (ev_fld (ev_var rfl) h1 T.Drawing.cl T.Drawing.na_counts dF_counts) ev_c (rv_ixL h2 (at_of (j := 0) rfl rfl))) (rv_I (.inl ⟨by decide, by decide⟩))) rv_I0) (by simp)) k
theorem ok_Drawing_mark_base (T : Txt K mg) : FnOk P w K mg base CX0 2 T.Drawing.mark_base.f T.Drawing.mark_base.fd ["self"] (spCt K T.Drawing.C gMark) := by
  refine T.Drawing.mark_base.F.ok sc_Drawing_mark_base (fun vs H Q E h => ?_) (fun cdv A outer s H vs Q E hr h => ?_)
  · obtain ⟨a, sz, w, h, n1, n2, n3, rfl, _⟩ := h
    rfl
  · refine ⟨_, (pss_one (ps_ret (pe_op op_add (pe_meth0 (pv 0) T.Drawing.cl T.Drawing.line_base.m (ok_Drawing_line_base T) (hr.mono (by decide)) T.Drawing.line_base.b .nil pass0) (pe_op op_mul (pe_glob (v := .int (4)) rfl T.c_LINE_BYTES.choose_spec ⟨_, rfl⟩) (pe_ix ix_list (pe_fld (pv 0) rfl) pe_int (fun _ _ => rfl)))))), ?_⟩
    obtain ⟨a, sz, w, h, n1, n2, n3, rfl, D, k⟩ := h
    obtain ⟨dx, c, l1, l2, l3, h1, h2⟩ := id D
    exact s_ret (ev_is (ev_op (ev_meth (ev_var rfl) h1 dF_no ea_nil (spv_ct D)) (ev_op ev_c (ev_op (ev_fld (ev_var rfl) h1 T.Drawing.cl T.Drawing.na_counts dF_counts) ev_c (rv_ixL h2 (at_of (j := 1) rfl rfl))) (rv_I (.inl ⟨by decide, by decide⟩))) rv_I0) (by simp)) k
theorem ok_Drawing_whole_size (T : Txt K mg) : FnOk P w K mg base CX0 3 T.Drawing.whole_size.f T.Drawing.whole_size.fd ["self"] (spCt K T.Drawing.C gWhole) := by
  refine T.Drawing.whole_size.F.ok sc_Drawing_whole_size (fun vs H Q E h => ?_) (fun cdv A outer s H vs Q E hr h => ?_)
  · obtain ⟨a, sz, w, h, n1, n2, n3, rfl, _⟩ := h
    rfl
  · refine ⟨_, (pss_one (ps_ret (pe_op op_add (pe_meth0 (pv 0) T.Drawing.cl T.Drawing.mark_base.m (ok_Drawing_mark_base T) (hr.mono (by decide)) T.Drawing.mark_base.b .nil pass0) (pe_op op_mul (pe_glob (v := .int (12)) rfl T.c_MARK_BYTES.choose_spec ⟨_, rfl⟩) (pe_ix ix_list (pe_fld (pv 0) rfl) pe_int (fun _ _ => rfl)))))), ?_⟩
    obtain ⟨a, sz, w, h, n1, n2, n3, rfl, D, k⟩ := h
    obtain ⟨dx, c, l1, l2, l3, h1, h2⟩ := id D
    exact s_ret (ev_is (ev_op (ev_meth (ev_var rfl) h1 dF_no ea_nil (spv_ct D)) (ev_op ev_c (ev_op (ev_fld (ev_var rfl) h1 T.Drawing.cl T.Drawing.na_counts dF_counts) ev_c (rv_ixL h2 (at_of (j := 2) rfl rfl))) (rv_I (.inl ⟨by decide, by decide⟩))) rv_I0) (by simp)) k
/-- a method that gives a place -/
def spPl (K : PySem.W.Frag) (C : Addr) (g : Nat → Nat → Nat → Nat → Nat) : Sp := fun vs H Q _ => ∃ (a : Addr) (sz w h n1 n2 n3 i : Nat), vs = [.ref a, .int (i : Int)] ∧ DCt K C H a sz w h n1 n2 n3 ∧ RetV (.int (g n1 n2 n3 i : Int)) H Q
theorem spv_pl {C : Addr} {g : Nat → Nat → Nat → Nat → Nat} {H : Hp} {a : Addr} {sz w h n1 n2 n3 i : Nat} {iz : Int} (D : DCt K C H a sz w h n1 n2 n3) (e : iz = (i : Int)) : SpV (spPl K C g) [.ref a, .int iz] H (.int (g n1 n2 n3 i : Int)) := fun H1 e1 Q q E => ⟨a, sz, w, h, n1, n2, n3, i, by rw [e], D.mono e1, q⟩
abbrev gPp : Nat → Nat → Nat → Nat → Nat := fun _ _ _ i => 20 + 8 * i
abbrev gLp : Nat → Nat → Nat → Nat → Nat := fun n1 _ _ i => 20 + 8 * n1 + 4 * i
abbrev gMp : Nat → Nat → Nat → Nat → Nat := fun n1 n2 _ i => 20 + 8 * n1 + 4 * n2 + 12 * i
theorem ok_Drawing_point_place (T : Txt K mg) : FnOk P w K mg base CX0 1 T.Drawing.point_place.f T.Drawing.point_place.fd ["self", "number"] (spPl K T.Drawing.C gPp) := by
  refine T.Drawing.point_place.F.ok sc_Drawing_point_place (fun vs H Q E h => ?_) (fun cdv A outer s H vs Q E hr h => ?_)
  · obtain ⟨a, sz, w, h, n1, n2, n3, i, rfl, _⟩ := h
    rfl
  · refine ⟨_, (pss_one (ps_ret (pe_op op_add (pe_glob (v := .int (20)) rfl T.c_HEAD.choose_spec ⟨_, rfl⟩) (pe_op op_mul (pe_glob (v := .int (8)) rfl T.c_POINT_BYTES.choose_spec ⟨_, rfl⟩) (pv 1))))), ?_⟩
    obtain ⟨a, sz, w, h, n1, n2, n3, i, rfl, D, k⟩ := h
    exact s_ret (ev_is (ev_op ev_c (ev_op ev_c (ev_var rfl) (rv_I (.inl ⟨by decide, by decide⟩))) rv_I0) (by simp)) k
theorem ok_Drawing_line_place (T : Txt K mg) : FnOk P w K mg base CX0 2 T.Drawing.line_place.f T.Drawing.line_place.fd ["self", "number"] (spPl K T.Drawing.C gLp) := by
  refine T.Drawing.line_place.F.ok sc_Drawing_line_place (fun vs H Q E h => ?_) (fun cdv A outer s H vs Q E hr h => ?_)
  · obtain ⟨a, sz, w, h, n1, n2, n3, i, rfl, _⟩ := h
    rfl
  · refine ⟨_, (pss_one (ps_ret (pe_op op_add (pe_meth0 (pv 0) T.Drawing.cl T.Drawing.line_base.m (ok_Drawing_line_base T) (hr.mono (by decide)) T.Drawing.line_base.b .nil pass0) (pe_op op_mul (pe_glob (v := .int (4)) rfl T.c_LINE_BYTES.choose_spec ⟨_, rfl⟩) (pv 1))))), ?_⟩
    obtain ⟨a, sz, w, h, n1, n2, n3, i, rfl, D, k⟩ := h
    obtain ⟨dx, c, l1, l2, l3, h1, h2⟩ := id D
    exact s_ret (ev_is (ev_op (ev_meth (ev_var rfl) h1 dF_no ea_nil (spv_ct D)) (ev_op ev_c (ev_var rfl) (rv_I (.inl ⟨by decide, by decide⟩))) rv_I0) (by simp)) k
theorem ok_Drawing_mark_place (T : Txt K mg) : FnOk P w K mg base CX0 3 T.Drawing.mark_place.f T.Drawing.mark_place.fd ["self", "number"] (spPl K T.Drawing.C gMp) := by
  refine T.Drawing.mark_place.F.ok sc_Drawing_mark_place (fun vs H Q E h => ?_) (fun cdv A outer s H vs Q E hr h => ?_)
  · obtain ⟨a, sz, w, h, n1, n2, n3, i, rfl, _⟩ := h
    rfl
  · refine ⟨_, (pss_one (ps_ret (pe_op op_add (pe_meth0 (pv 0) T.Drawing.cl T.Drawing.mark_base.m (ok_Drawing_mark_base T) (hr.mono (by decide)) T.Drawing.mark_base.b .nil pass0) (pe_op op_mul (pe_glob (v := .int (12)) rfl T.c_MARK_BYTES.choose_spec ⟨_, rfl⟩) (pv 1))))), ?_⟩
    obtain ⟨a, sz, w, h, n1, n2, n3, i, rfl, D, k⟩ := h
    obtain ⟨dx, c, l1, l2, l3, h1, h2⟩ := id D
    exact s_ret (ev_is (ev_op (ev_meth (ev_var rfl) h1 dF_no ea_nil (spv_ct D)) (ev_op ev_c (ev_var rfl) (rv_I (.inl ⟨by decide, by decide⟩))) rv_I0) (by simp)) k
end
end Lead
namespace Lead
open PySem PySem.Spec PyProof.Rows L2 Evl LeadT
/-- all but what stands at x is as it was -/
def ExB (x : Addr) (H H' : Hp) : Prop := ∀ y o, y ≠ x → H y = some o → H' y = some o
section
variable {K : PySem.W.Frag} {C a dx x y : Addr} {H H' H2 : Hp} {σ : L2.St} {ta tv te : TE} {D : Ends} {v : V} {fs : List (Str × V)} {f : Str}
theorem ExB.refl : ExB x H H := fun _ _ _ h => h
theorem ExB.ex (h : ExB x H H') (e : Ex H' H2) : ExB x H H2 := fun y o n q => e _ _ (h y o n q)
theorem ExB.of (e : Ex H H') : ExB x H H' := fun y o _ q => e _ _ q
theorem ExB.trans (h : ExB x H H') (k : ExB x H' H2) : ExB x H H2 := fun y o n q => k y o n (h y o n q)
theorem ExB.put {o : HO} (h : ExB x H H') : ExB x H (upd H' x o) := fun y u n q => by
  rw [upd_ne n]
  exact h y u n q
theorem ExB.toEx (h : ExB x H H') (hx : H x = none) : Ex H H' := fun y o q => h y o (ne_of_none q hx) q
theorem sqL_off {xs : List V} {l : Addr} {C' dx' : Addr} {fs' : List (Str × V)} (h : SqL K H l xs) (hx : H x = some (.ins C' dx' fs')) (e : ExB x H H') : SqL K H' l xs := by
  rcases h with (h | ⟨o, h⟩) | h
  · exact .inl (.inl (e _ _ (ne_of h hx (by intro z; cases z)) h))
  · exact .inl (.inr ⟨o, e _ _ (ne_of h hx (by intro z; cases z)) h⟩)
  · exact .inr h
theorem s_fld (hv : Ev tv σ H v) (ha : Ev ta σ H (.ref a)) (ho : H a = some (.ins C dx fs)) (hc : Cls K C) (hn : NoAttr K C f) (hl : fs.length < 1000) (k : ∀ H1, Ex H H1 → D.nx σ (upd H1 a (.ins C dx (putF f v fs)))) : sFld K ta tv f D σ H :=
  hv H (Ex.refl H) _ fun H1 e1 => ha H1 e1 _ fun H2 e2 => ⟨a, C, dx, fs, rfl, e2 _ _ (e1 _ _ ho), hc, hn, hl, k H2 (e1.trans e2)⟩
theorem s_fldL {xs : List V} (hv : EvL tv σ H xs) (ha : Ev ta σ H (.ref a)) (ho : H a = some (.ins C dx fs)) (hc : Cls K C) (hn : NoAttr K C f) (hl : fs.length < 1000)
    (k : ∀ p H1, H p = none → Ex H H1 → H1 p = some (.lst xs) → D.nx σ (upd H1 a (.ins C dx (putF f (.ref p) fs)))) : sFld K ta tv f D σ H :=
  hv H (Ex.refl H) _ fun p H1 hp e1 h1 => ha H1 e1 _ fun H2 e2 => ⟨a, C, dx, fs, rfl, e2 _ _ (e1 _ _ ho), hc, hn, hl, k p H2 hp (e1.trans e2) (e2 _ _ h1)⟩
theorem q_fld {tz : TS} (hv : Ev tv σ H v) (ha : Ev ta σ H (.ref a)) (ho : H a = some (.ins C dx fs)) (hc : Cls K C) (hn : NoAttr K C f) (hl : fs.length < 1000) (k : ∀ H1, Ex H H1 → tz D σ (upd H1 a (.ins C dx (putF f v fs)))) : tSeq (sFld K ta tv f) tz D σ H :=
  s_fld (D := { D with nx := tz D }) hv ha ho hc hn hl k
theorem q_fldL {tz : TS} {xs : List V} (hv : EvL tv σ H xs) (ha : Ev ta σ H (.ref a)) (ho : H a = some (.ins C dx fs)) (hc : Cls K C) (hn : NoAttr K C f) (hl : fs.length < 1000)
    (k : ∀ p H1, H p = none → Ex H H1 → H1 p = some (.lst xs) → tz D σ (upd H1 a (.ins C dx (putF f (.ref p) fs)))) : tSeq (sFld K ta tv f) tz D σ H :=
  s_fldL (D := { D with nx := tz D }) hv ha ho hc hn hl k
theorem ev_lenL {p : Addr} {xs : List V} (ha : Ev ta σ H (.ref p)) (h : SqL K H p xs) : Ev (tCB (fun xs H Q => ∃ p ys, xs = [.ref p] ∧ (SqL K H p ys ∨ SqT K H p ys) ∧ Q (.int ys.length) H) (tCons ta tNil)) σ H (.int (xs.length : Int)) := ev_len ha h
end
section
variable {P : Program} {w : World} {K : PySem.W.Frag} {mg : Str → Option Value} {base : Heap}
/-- the counts, as the bytes tell them -/
def cts (b : List UInt8) : List V := [.int (GlaBase.num b 12 2 : Int), .int (GlaBase.num b 14 2 : Int), .int (GlaBase.num b 16 2 : Int)]
def spDInit (K : PySem.W.Frag) (C : Addr) : Sp := fun vs H Q _ => ∃ (x dx d : Addr) (b : List UInt8), vs = [.ref x, .ref d] ∧ H x = some (.ins C dx []) ∧ SqL K H d (bz b) ∧ 20 ≤ b.length ∧
  ∀ (H' : Hp) (c l1 l2 l3 : Addr), ExB x H H' → H' x = some (.ins C dx (dF b.length (GlaBase.num b 4 4) (GlaBase.num b 8 4) c l1 l2 l3)) → H' c = some (.lst (cts b)) →
    (H' l1 = some (.lst []) ∧ H' l2 = some (.lst []) ∧ H' l3 = some (.lst [])) → (l1 ≠ l2 ∧ l1 ≠ l3 ∧ l2 ≠ l3 ∧ c ≠ l1 ∧ c ≠ l2 ∧ c ≠ l3) → (H c = none ∧ H l1 = none ∧ H l2 = none ∧ H l3 = none) → Q .non H'
theorem ok_Drawing_init (T : Txt K mg) : FnOk P w K mg base CX0 2 T.Drawing.init.f T.Drawing.init.fd ["self", "data"] (spDInit K T.Drawing.C) := by
  refine T.Drawing.init.F.ok sc_Drawing_init (fun vs H Q E h => ?_) (fun cdv A outer s H vs Q E hr h => ?_)
  · obtain ⟨x, dx, d, b, rfl, _⟩ := h
    rfl
  · refine ⟨_, (pss_cons (ps_fld (pv 0) (pe_callB call_len_seq (by rfl) T.n_len PySem.boot_len (pa_cons (pv 1) pa_nil)) rfl)
    (pss_cons (ps_fld (pv 0) (pe_call (ok_number_at T) (hr.mono (by decide)) rfl T.number_at.g T.number_at.F.kp T.number_at.b .nil pass0 (pa_cons (pv 1) (pa_cons pe_int (pa_cons pe_int pa_nil)))) rfl)
    (pss_cons (ps_fld (pv 0) (pe_call (ok_number_at T) (hr.mono (by decide)) rfl T.number_at.g T.number_at.F.kp T.number_at.b .nil pass0 (pa_cons (pv 1) (pa_cons pe_int (pa_cons pe_int pa_nil)))) rfl)
    (pss_cons (ps_fld (pv 0) (pe_lst (pa_cons (pe_call (ok_number_at T) (hr.mono (by decide)) rfl T.number_at.g T.number_at.F.kp T.number_at.b .nil pass0 (pa_cons (pv 1) (pa_cons pe_int (pa_cons pe_int pa_nil)))) (pa_cons (pe_call (ok_number_at T) (hr.mono (by decide)) rfl T.number_at.g T.number_at.F.kp T.number_at.b .nil pass0 (pa_cons (pv 1) (pa_cons pe_int (pa_cons pe_int pa_nil)))) (pa_cons (pe_call (ok_number_at T) (hr.mono (by decide)) rfl T.number_at.g T.number_at.F.kp T.number_at.b .nil pass0 (pa_cons (pv 1) (pa_cons pe_int (pa_cons pe_int pa_nil)))) pa_nil)))) rfl)
    (pss_cons (ps_fld (pv 0) (pe_lst pa_nil) rfl)
    (pss_cons (ps_fld (pv 0) (pe_lst pa_nil) rfl)
    (pss_one (ps_fld (pv 0) (pe_lst pa_nil) rfl)))))))), ?_⟩
    obtain ⟨x, dx, d, b, rfl, hx, hd, hl, k⟩ := h
    have cl := T.Drawing.cl
    have dz : (bz b).length = b.length := by unfold bz; rw [List.length_map]
    refine q_fld (ev_lenL (ev_var rfl) hd) (ev_var rfl) hx cl T.Drawing.na_size (by show 0 < 1000; decide) fun H1 e1 => ?_
    have b1 : ExB x H (upd H1 x (.ins T.Drawing.C dx (putF "size" (.int ((bz b).length : Int)) []))) := ExB.put (ExB.of e1)
    generalize hH2 : upd H1 x (.ins T.Drawing.C dx (putF "size" (.int ((bz b).length : Int)) [])) = H2 at b1 ⊢
    have x2 : H2 x = some (.ins T.Drawing.C dx (putF "size" (.int ((bz b).length : Int)) [])) := by rw [← hH2, upd_same]
    refine q_fld (ev_call (ea_cons (ev_var rfl) (ea_cons ev_c (ea_cons ev_c ea_nil))) (spv_number (p := 4) (m := 4) (sqL_off hd hx b1) (by omega) (by omega) rfl rfl)) (ev_var rfl) x2 cl T.Drawing.na_width (by show 1 < 1000; decide) fun H3 e3 => ?_
    have b2 := (b1.ex e3).put (o := .ins T.Drawing.C dx (putF "width" (.int (GlaBase.num b 4 4 : Int)) (putF "size" (.int ((bz b).length : Int)) [])))
    generalize hH4 : upd H3 x (.ins T.Drawing.C dx (putF "width" (.int (GlaBase.num b 4 4 : Int)) (putF "size" (.int ((bz b).length : Int)) []))) = H4 at b2 ⊢
    have x4 : H4 x = some (.ins T.Drawing.C dx (putF "width" (.int (GlaBase.num b 4 4 : Int)) (putF "size" (.int ((bz b).length : Int)) []))) := by rw [← hH4, upd_same]
    refine q_fld (ev_call (ea_cons (ev_var rfl) (ea_cons ev_c (ea_cons ev_c ea_nil))) (spv_number (p := 8) (m := 4) (sqL_off hd hx b2) (by omega) (by omega) rfl rfl)) (ev_var rfl) x4 cl T.Drawing.na_height (by rw [putNew (f := "width") _ ["size"] rfl (by decide +kernel)]; show 2 < 1000; decide) fun H5 e5 => ?_
    have f3 : putF "height" (.int (GlaBase.num b 8 4 : Int)) (putF "width" (.int (GlaBase.num b 4 4 : Int)) (putF "size" (.int ((bz b).length : Int)) [])) = [(("size" : Str), V.int ((bz b).length : Int)), ("width", .int (GlaBase.num b 4 4 : Int)), ("height", .int (GlaBase.num b 8 4 : Int))] := by
      rw [putNew (f := "width") _ ["size"] rfl (by decide +kernel)]
      exact putNew (f := "height") _ ["size", "width"] rfl (by decide +kernel)
    rw [f3]
    have b3 := (b2.ex e5).put (o := .ins T.Drawing.C dx [(("size" : Str), V.int ((bz b).length : Int)), ("width", .int (GlaBase.num b 4 4 : Int)), ("height", .int (GlaBase.num b 8 4 : Int))])
    generalize hH6 : upd H5 x (.ins T.Drawing.C dx [(("size" : Str), V.int ((bz b).length : Int)), ("width", .int (GlaBase.num b 4 4 : Int)), ("height", .int (GlaBase.num b 8 4 : Int))]) = H6 at b3 ⊢
    have x6 : H6 x = some (.ins T.Drawing.C dx [(("size" : Str), V.int ((bz b).length : Int)), ("width", .int (GlaBase.num b 4 4 : Int)), ("height", .int (GlaBase.num b 8 4 : Int))]) := by rw [← hH6, upd_same]
    have d6 := sqL_off hd hx b3
    refine q_fldL (xs := cts b) (el_lst (ea_cons (ev_call (ea_cons (ev_var rfl) (ea_cons ev_c (ea_cons ev_c ea_nil))) (spv_number (p := 12) (m := 2) d6 (by omega) (by omega) rfl rfl)) (ea_cons (ev_call (ea_cons (ev_var rfl) (ea_cons ev_c (ea_cons ev_c ea_nil))) (spv_number (p := 14) (m := 2) d6 (by omega) (by omega) rfl rfl))
      (ea_cons (ev_call (ea_cons (ev_var rfl) (ea_cons ev_c (ea_cons ev_c ea_nil))) (spv_number (p := 16) (m := 2) d6 (by omega) (by omega) rfl rfl)) ea_nil))) (by show 3 ≤ 100000; decide)) (ev_var rfl) x6 cl T.Drawing.na_counts (by show 3 < 1000; decide) fun c H7 hc e7 hc7 => ?_
    have nxc : c ≠ x := (ne_of_none x6 hc).symm
    rw [putNew (f := "counts") _ ["size", "width", "height"] rfl (by decide +kernel)]
    show _
    -- points
    refine q_fldL (H := upd H7 x _) (el_lst ea_nil (by show 0 ≤ 100000; decide)) (ev_var rfl) upd_same cl T.Drawing.na_points (by show 4 < 1000; decide) fun l1 H8 hl1 e8 hl8 => ?_
    have n1x : l1 ≠ x := (ne_of_none upd_same hl1).symm
    rw [putNew (f := "points") _ ["size", "width", "height", "counts"] rfl (by decide +kernel)]
    refine q_fldL (H := upd H8 x _) (el_lst ea_nil (by show 0 ≤ 100000; decide)) (ev_var rfl) upd_same cl T.Drawing.na_lines (by show 5 < 1000; decide) fun l2 H9 hl2 e9 hl9 => ?_
    have n2x : l2 ≠ x := (ne_of_none upd_same hl2).symm
    rw [putNew (f := "lines") _ ["size", "width", "height", "counts", "points"] rfl (by decide +kernel)]
    refine s_fldL (H := upd H9 x _) (el_lst ea_nil (by show 0 ≤ 100000; decide)) (ev_var rfl) upd_same cl T.Drawing.na_marks (by show 6 < 1000; decide) fun l3 H10 hl3 e10 hl10 => ?_
    have n3x : l3 ≠ x := (ne_of_none upd_same hl3).symm
    rw [putNew (f := "marks") _ ["size", "width", "height", "counts", "points", "lines"] rfl (by decide +kernel)]
    have c8 : H8 c = some (.lst (cts b)) := e8 _ _ (by rw [upd_ne nxc]; exact hc7)
    have c9 : H9 c = some (.lst (cts b)) := e9 _ _ (by rw [upd_ne nxc]; exact c8)
    have c10 : H10 c = some (.lst (cts b)) := e10 _ _ (by rw [upd_ne nxc]; exact c9)
    have p9 : H9 l1 = some (.lst []) := e9 _ _ (by rw [upd_ne n1x]; exact hl8)
    have p10 : H10 l1 = some (.lst []) := e10 _ _ (by rw [upd_ne n1x]; exact p9)
    have q10 : H10 l2 = some (.lst []) := e10 _ _ (by rw [upd_ne n2x]; exact hl9)
    have f7 : H7 l1 = none := by rw [upd_ne n1x] at hl1; exact hl1
    have f8 : H8 l2 = none := by rw [upd_ne n2x] at hl2; exact hl2
    have f9 : H9 l3 = none := by rw [upd_ne n3x] at hl3; exact hl3
    have b7 : ExB x H H7 := b3.ex e7
    have b8 : ExB x H H8 := b7.put.ex e8
    have b9 : ExB x H H9 := b8.put.ex e9
    have b10 : ExB x H H10 := b9.put.ex e10
    have back : ∀ {G : Hp} {l : Addr}, ExB x H G → l ≠ x → G l = none → H l = none := by
      intro G l bb n hn
      cases q : H l with
      | none => rfl
      | some o =>
        rw [bb l o n q] at hn
        cases hn
    refine k (upd H10 x _) c l1 l2 l3 b10.put ?_ (by rw [upd_ne nxc]; exact c10) ⟨by rw [upd_ne n1x]; exact p10, by rw [upd_ne n2x]; exact q10, by rw [upd_ne n3x]; exact hl10⟩ ⟨ne_of_none hl8 f8, ne_of_none p9 f9, ne_of_none hl9 f9, ne_of_none hc7 f7, ne_of_none c8 f8, ne_of_none c9 f9⟩ ⟨back b3 nxc hc, back b7 n1x f7, back b8 n2x f8, back b9 n3x f9⟩
    rw [upd_same, dz]
    rfl
end
end Lead
namespace Lead
open PySem PySem.Spec PyProof.Rows L2 Evl LeadT
section
variable {K : PySem.W.Frag} {C a dx x y l : Addr} {H H' H2 : Hp} {σ : L2.St} {ta tv te : TE} {D : Ends} {v : V} {fs : List (Str × V)} {f : Str} {p : Z2}
theorem P2.put {xs ys : List V} (h : P2 K H a p) (hl : H l = some (.lst xs)) : P2 K (upd H l (.lst ys)) a p := by
  rcases h with (h | ⟨o, h⟩) | h
  · exact .inl (.inl (by rw [upd_ne (ne_of h hl (by intro z; cases z))]; exact h))
  · exact .inl (.inr ⟨o, by rw [upd_ne (ne_of h hl (by intro z; cases z))]; exact h⟩)
  · exact .inr h
/-- a list of points that grows -/
def GrowP (K : PySem.W.Frag) (l : Addr) (f : Nat → Z2) (i : Nat) (H : Hp) : Prop := ∃ as : List Addr, H l = some (.lst (as.map V.ref)) ∧ as.length = i ∧ ∀ (j : Nat) (a : Addr), as[j]? = some a → P2 K H a (f j)
theorem GrowP.zero {f : Nat → Z2} (h : H l = some (.lst [])) : GrowP K l f 0 H := ⟨[], h, rfl, fun j a z => by simp at z⟩
theorem GrowP.mono {f : Nat → Z2} {i : Nat} (h : GrowP K l f i H) (e : Ex H H') : GrowP K l f i H' := by
  obtain ⟨as, h1, h2, h3⟩ := h
  exact ⟨as, e _ _ h1, h2, fun j a z => (h3 j a z).mono e⟩
theorem GrowP.other {f : Nat → Z2} {i : Nat} {l2 : Addr} {xs ys : List V} (h : GrowP K l f i H) (hl : H l2 = some (.lst xs)) (n : l ≠ l2) : GrowP K l f i (upd H l2 (.lst ys)) := by
  obtain ⟨as, h1, h2, h3⟩ := h
  exact ⟨as, by rw [upd_ne n]; exact h1, h2, fun j a z => (h3 j a z).put hl⟩
theorem P2.keep {xs : List V} (h : P2 K H a p) (hl : H l = some (.lst xs)) (k : ∀ b o, b ≠ l → H b = some o → H' b = some o) : P2 K H' a p := by
  rcases h with (h | ⟨o, h⟩) | h
  · exact .inl (.inl (k _ _ (ne_of h hl (by intro z; cases z)) h))
  · exact .inl (.inr ⟨o, k _ _ (ne_of h hl (by intro z; cases z)) h⟩)
  · exact .inr h
theorem GrowP.keep {f : Nat → Z2} {i : Nat} {l2 : Addr} {xs : List V} (h : GrowP K l f i H) (hl : H l2 = some (.lst xs)) (n : l ≠ l2) (k : ∀ b o, b ≠ l2 → H b = some o → H' b = some o) : GrowP K l f i H' := by
  obtain ⟨as, h1, h2, h3⟩ := h
  exact ⟨as, k _ _ n h1, h2, fun j a z => (h3 j a z).keep hl k⟩
theorem GrowP.lst {f : Nat → Z2} {i : Nat} (h : GrowP K l f i H) : ∃ xs, H l = some (.lst xs) := by
  obtain ⟨as, h1, _⟩ := h
  exact ⟨_, h1⟩
theorem GrowP.pt {f : Nat → Z2} {i : Nat} (h : GrowP K l f i H) : PtL K H l ((List.range i).map f) := by
  obtain ⟨as, h1, h2, h3⟩ := h
  refine ⟨as, sq_of h1, by rw [List.length_map, List.length_range, h2], fun j a p z1 z2 => ?_⟩
  have lt : j < i := by
    have := (List.getElem?_eq_some_iff.mp z1).1
    omega
  rw [List.getElem?_map, List.getElem?_range lt] at z2
  have : f j = p := Option.some.inj z2
  rw [← this]
  exact h3 j a z1
/-- a point is put behind -/
theorem s_grow {f : Nat → Z2} {i : Nat} (g : GrowP K l f i H) (ha : Ev ta σ H (.ref l)) (he : EvU te σ H (vz (f i))) (hi : i < 100000) (k : ∀ (H1 : Hp), (∀ b o, b ≠ l → H b = some o → H1 b = some o) → GrowP K l f (i + 1) H1 → D.nx σ H1) :
    tDrop (tBM K "list" rAppend ta (tCons te tNil)) D σ H := by
  obtain ⟨as, h1, h2, h3⟩ := g
  refine s_appU h1 ha he (by rw [List.length_map, h2]; exact hi) fun p H1 hp e hv => ?_
  refine k _ (fun b o n q => by rw [upd_ne n]; exact e _ _ q) ⟨as ++ [p], by rw [upd_same]; simp, by simp [h2], fun j a z => ?_⟩
  by_cases c : j < as.length
  · rw [List.getElem?_append_left c] at z
    exact ((h3 j a z).mono e).put (e _ _ h1)
  · have lt := (List.getElem?_eq_some_iff.mp z).1
    rw [List.length_append] at lt
    have ej : j = as.length := by simp at lt; omega
    subst ej
    rw [List.getElem?_append_right (Nat.le_refl _), Nat.sub_self] at z
    have : p = a := Option.some.inj z
    subst this
    rw [h2]
    exact (P2.of hv).put (e _ _ h1)
end
/-- all but three lists -/
def Ex3 (l1 l2 l3 : Addr) (H H' : Hp) : Prop := ∀ b o, b ≠ l1 → b ≠ l2 → b ≠ l3 → H b = some o → H' b = some o
def pz4 (b : List UInt8) (i : Nat) : Z2 := ((GlaBase.num b (20 + 8 * i) 4 : Int), (GlaBase.num b (20 + 8 * i + 4) 4 : Int))
def lz2 (b : List UInt8) (i : Nat) : Z2 := ((GlaBase.num b (20 + 8 * GlaBase.num b 12 2 + 4 * i) 2 : Int), (GlaBase.num b (20 + 8 * GlaBase.num b 12 2 + 4 * i + 2) 2 : Int))
def mz4 (b : List UInt8) (i : Nat) : Z2 := ((GlaBase.num b (20 + 8 * GlaBase.num b 12 2 + 4 * GlaBase.num b 14 2 + 12 * i) 4 : Int), (GlaBase.num b (20 + 8 * GlaBase.num b 12 2 + 4 * GlaBase.num b 14 2 + 12 * i + 4) 4 : Int))
section
variable {P : Program} {w : World} {K : PySem.W.Frag} {mg : Str → Option Value} {base : Heap}
def spFill (K : PySem.W.Frag) (C : Addr) : Sp := fun vs H Q _ => ∃ (x dx c l1 l2 l3 d : Addr) (b : List UInt8) (sz w h : Nat), vs = [.ref x, .ref d] ∧ H x = some (.ins C dx (dF sz w h c l1 l2 l3)) ∧ (∀ H', Ex3 l1 l2 l3 H H' → SqL K H' d (bz b)) ∧ H c = some (.lst (cts b)) ∧
  (H l1 = some (.lst []) ∧ H l2 = some (.lst []) ∧ H l3 = some (.lst [])) ∧ (l1 ≠ l2 ∧ l1 ≠ l3 ∧ l2 ≠ l3 ∧ c ≠ l1 ∧ c ≠ l2 ∧ c ≠ l3) ∧ 
  b.length = 20 + 8 * GlaBase.num b 12 2 + 4 * GlaBase.num b 14 2 + 12 * GlaBase.num b 16 2 ∧ (GlaBase.num b 12 2 ≤ 4096 ∧ GlaBase.num b 14 2 ≤ 8192 ∧ GlaBase.num b 16 2 ≤ 2048) ∧
  ∀ H' : Hp, Ex3 l1 l2 l3 H H' → GrowP K l1 (pz4 b) (GlaBase.num b 12 2) H' → GrowP K l2 (lz2 b) (GlaBase.num b 14 2) H' → GrowP K l3 (mz4 b) (GlaBase.num b 16 2) H' → Q .non H'
/-- a list that stood when three others were not there yet stands whatever becomes of these -/
theorem sqL_3 {H H1 H' : Hp} {l1 l2 l3 d : Addr} {xs : List V} (h : SqL K H d xs) (e : Ex H H1) (n : H l1 = none ∧ H l2 = none ∧ H l3 = none) (e3 : Ex3 l1 l2 l3 H1 H') : SqL K H' d xs := by
  rcases h with (h | ⟨o, h⟩) | h
  · exact .inl (.inl (e3 _ _ (ne_of_none h n.1) (ne_of_none h n.2.1) (ne_of_none h n.2.2) (e _ _ h)))
  · exact .inl (.inr ⟨o, e3 _ _ (ne_of_none h n.1) (ne_of_none h n.2.1) (ne_of_none h n.2.2) (e _ _ h)⟩)
  · exact .inr h
theorem ok_Drawing_fill (T : Txt K mg) : FnOk P w K mg base CX0 4 T.Drawing.fill.f T.Drawing.fill.fd ["self", "data"] (spFill K T.Drawing.C) := by
  refine T.Drawing.fill.F.ok sc_Drawing_fill (fun vs H Q E h => ?_) (fun cdv A outer s H vs Q E hr h => ?_)
  · obtain ⟨x, dx, c, l1, l2, l3, d, b, sz, w, h, rfl, _⟩ := h
    rfl
  · refine ⟨_, (pss_cons (ps_for PassesOwn.never rfl (pi_range1 rfl T.n_range (pa_cons (pe_ix ix_list (pe_fld (pv 0) rfl) pe_int (fun _ _ => rfl)) pa_nil)) (pg_name (i := 2) sc_Drawing_fill.nd rfl (Or.inl rfl)) (pss_cons (ps_set (i := 3) sc_Drawing_fill.nd rfl (.inl rfl) (pe_meth (pv 0) T.Drawing.cl T.Drawing.point_place.m (ok_Drawing_point_place T) (hr.mono (by decide)) T.Drawing.point_place.b .nil pass0 (pa_cons (pv 2) pa_nil)))
    (pss_one (ps_expr (pe_bm PySem.F.plainAttrs_list PySem.F.slot_list_append PySem.F.type_list_append mt_append (pe_fld (pv 0) rfl) (pa_cons (pe_tup (pa_cons (pe_call (ok_number_at T) (hr.mono (by decide)) rfl T.number_at.g T.number_at.F.kp T.number_at.b .nil pass0 (pa_cons (pv 1) (pa_cons (pv 3) (pa_cons pe_int pa_nil)))) (pa_cons (pe_call (ok_number_at T) (hr.mono (by decide)) rfl T.number_at.g T.number_at.F.kp T.number_at.b .nil pass0 (pa_cons (pv 1) (pa_cons (pe_op op_add (pv 3) pe_int) (pa_cons pe_int pa_nil)))) pa_nil))) pa_nil))))))
    (pss_cons (ps_for PassesOwn.never rfl (pi_range1 rfl T.n_range (pa_cons (pe_ix ix_list (pe_fld (pv 0) rfl) pe_int (fun _ _ => rfl)) pa_nil)) (pg_name (i := 2) sc_Drawing_fill.nd rfl (Or.inl rfl)) (pss_cons (ps_set (i := 3) sc_Drawing_fill.nd rfl (.inl rfl) (pe_meth (pv 0) T.Drawing.cl T.Drawing.line_place.m (ok_Drawing_line_place T) (hr.mono (by decide)) T.Drawing.line_place.b .nil pass0 (pa_cons (pv 2) pa_nil)))
    (pss_one (ps_expr (pe_bm PySem.F.plainAttrs_list PySem.F.slot_list_append PySem.F.type_list_append mt_append (pe_fld (pv 0) rfl) (pa_cons (pe_tup (pa_cons (pe_call (ok_number_at T) (hr.mono (by decide)) rfl T.number_at.g T.number_at.F.kp T.number_at.b .nil pass0 (pa_cons (pv 1) (pa_cons (pv 3) (pa_cons pe_int pa_nil)))) (pa_cons (pe_call (ok_number_at T) (hr.mono (by decide)) rfl T.number_at.g T.number_at.F.kp T.number_at.b .nil pass0 (pa_cons (pv 1) (pa_cons (pe_op op_add (pv 3) pe_int) (pa_cons pe_int pa_nil)))) pa_nil))) pa_nil))))))
    (pss_one (ps_for PassesOwn.never rfl (pi_range1 rfl T.n_range (pa_cons (pe_ix ix_list (pe_fld (pv 0) rfl) pe_int (fun _ _ => rfl)) pa_nil)) (pg_name (i := 2) sc_Drawing_fill.nd rfl (Or.inl rfl)) (pss_cons (ps_set (i := 3) sc_Drawing_fill.nd rfl (.inl rfl) (pe_meth (pv 0) T.Drawing.cl T.Drawing.mark_place.m (ok_Drawing_mark_place T) (hr.mono (by decide)) T.Drawing.mark_place.b .nil pass0 (pa_cons (pv 2) pa_nil)))
    (pss_one (ps_expr (pe_bm PySem.F.plainAttrs_list PySem.F.slot_list_append PySem.F.type_list_append mt_append (pe_fld (pv 0) rfl) (pa_cons (pe_tup (pa_cons (pe_call (ok_number_at T) (hr.mono (by decide)) rfl T.number_at.g T.number_at.F.kp T.number_at.b .nil pass0 (pa_cons (pv 1) (pa_cons (pv 3) (pa_cons pe_int pa_nil)))) (pa_cons (pe_call (ok_number_at T) (hr.mono (by decide)) rfl T.number_at.g T.number_at.F.kp T.number_at.b .nil pass0 (pa_cons (pv 1) (pa_cons (pe_op op_add (pv 3) pe_int) (pa_cons pe_int pa_nil)))) pa_nil))) pa_nil))))))))), ?_⟩
    obtain ⟨x, dx, c, l1, l2, l3, d, b, sz, w, h, rfl, hx, hd, hc, ⟨h1, h2, h3⟩, ⟨n12, n13, n23, nc1, nc2, nc3⟩, hl, ⟨m1, m2, m3⟩, k⟩ := h
    have cl := T.Drawing.cl
    have nx1 : x ≠ l1 := ne_of hx h1 (by intro z; cases z)
    have nx2 : x ≠ l2 := ne_of hx h2 (by intro z; cases z)
    have nx3 : x ≠ l3 := ne_of hx h3 (by intro z; cases z)
    have facts : ∀ H', Ex3 l1 l2 l3 H H' → H' x = some (.ins T.Drawing.C dx (dF sz w h c l1 l2 l3)) ∧ SqL K H' d (bz b) ∧ SqL K H' c (cts b) := fun H' e => ⟨e _ _ nx1 nx2 nx3 hx, hd _ e, sq_of (e _ _ nc1 nc2 nc3 hc)⟩
    refine q_forR1 (n := (GlaBase.num b 12 2 : Int)) (ea_cons (ev_op (ev_fld (ev_var rfl) (facts _ (fun _ _ _ _ _ z => z)).1 cl T.Drawing.na_counts dF_counts) ev_c (rv_ixL (facts _ (fun _ _ _ _ _ z => z)).2.2 (at_of (j := 0) rfl rfl))) ea_nil) (by omega)
      (fun i σ' H' => Ex3 l1 l2 l3 H H' ∧ GrowP K l1 (pz4 b) i H' ∧ H' l2 = some (.lst []) ∧ H' l3 = some (.lst []) ∧ ∃ v1 v2, σ' = [some (.ref x), some (.ref d), v1, v2]) (fun H2 e2 => ⟨fun b' o _ _ _ q => e2 _ _ q, GrowP.zero (e2 _ _ h1), e2 _ _ h2, e2 _ _ h3, none, none, rfl⟩) ?_ ?_
    · rintro i σ' H' hi ⟨e, g, r2, r3, v1, v2, rfl⟩
      obtain ⟨fx, fd, fc⟩ := facts H' e
      have D' : DCt K T.Drawing.C H' x sz w h (GlaBase.num b 12 2) (GlaBase.num b 14 2) (GlaBase.num b 16 2) := ⟨dx, c, l1, l2, l3, fx, fc⟩
      refine q_asg (ev_meth (ev_var rfl) fx dF_no (ea_cons (ev_var rfl) ea_nil) (spv_pl D' rfl)) fun H2 e2 => ?_
      refine s_grow (f := pz4 b) (i := i) (g.mono e2) (ev_fld (ev_var rfl) (e2 _ _ fx) cl T.Drawing.na_points dF_points)
        (eu_tup (ea_cons (ev_call (ea_cons (ev_var rfl) (ea_cons (ev_var rfl) (ea_cons ev_c ea_nil))) (spv_number (m := 4) (ex_l e2 fd) (by show (20 + 8 * i) + 4 ≤ _; omega) (by omega) rfl rfl))
          (ea_cons (ev_call (ea_cons (ev_var rfl) (ea_cons (ev_op (ev_var rfl) ev_c rv_I0) (ea_cons ev_c ea_nil))) (spv_number (p := (20 + 8 * i) + 4) (m := 4) (ex_l e2 fd) (by omega) (by omega) (by simp) rfl)) ea_nil)) (by show 2 ≤ 100000; decide)) (by omega) fun H3 k3 g3 => ?_
      refine ⟨fun b' o z1 z2 z3 q => k3 b' o z1 (e2 _ _ (e b' o z1 z2 z3 q)), g3, k3 _ _ n12.symm (e2 _ _ r2), k3 _ _ n13.symm (e2 _ _ r3), _, _, rfl⟩
    rintro σ' H' ⟨e, g, r2, r3, v1, v2, rfl⟩
    refine q_forR1 (n := (GlaBase.num b 14 2 : Int)) (ea_cons (ev_op (ev_fld (ev_var rfl) (facts _ (e)).1 cl T.Drawing.na_counts dF_counts) ev_c (rv_ixL (facts _ (e)).2.2 (at_of (j := 1) rfl rfl))) ea_nil) (by omega)
      (fun i σ' H' => Ex3 l1 l2 l3 H H' ∧ GrowP K l1 (pz4 b) (GlaBase.num b 12 2) H' ∧ GrowP K l2 (lz2 b) i H' ∧ H' l3 = some (.lst []) ∧ ∃ v1 v2, σ' = [some (.ref x), some (.ref d), v1, v2]) (fun H2 e2 => ⟨fun b' o z1 z2 z3 q => e2 _ _ (e b' o z1 z2 z3 q), g.mono e2, GrowP.zero (e2 _ _ r2), e2 _ _ r3, v1, v2, rfl⟩) ?_ ?_
    · rintro i σ' H' hi ⟨e, g1, g, r3, v1, v2, rfl⟩
      obtain ⟨fx, fd, fc⟩ := facts H' e
      have D' : DCt K T.Drawing.C H' x sz w h (GlaBase.num b 12 2) (GlaBase.num b 14 2) (GlaBase.num b 16 2) := ⟨dx, c, l1, l2, l3, fx, fc⟩
      refine q_asg (ev_meth (ev_var rfl) fx dF_no (ea_cons (ev_var rfl) ea_nil) (spv_pl D' rfl)) fun H2 e2 => ?_
      refine s_grow (f := lz2 b) (i := i) (g.mono e2) (ev_fld (ev_var rfl) (e2 _ _ fx) cl T.Drawing.na_lines dF_lines)
        (eu_tup (ea_cons (ev_call (ea_cons (ev_var rfl) (ea_cons (ev_var rfl) (ea_cons ev_c ea_nil))) (spv_number (m := 2) (ex_l e2 fd) (by show (20 + 8 * GlaBase.num b 12 2 + 4 * i) + 2 ≤ _; omega) (by omega) rfl rfl))
          (ea_cons (ev_call (ea_cons (ev_var rfl) (ea_cons (ev_op (ev_var rfl) ev_c rv_I0) (ea_cons ev_c ea_nil))) (spv_number (p := (20 + 8 * GlaBase.num b 12 2 + 4 * i) + 2) (m := 2) (ex_l e2 fd) (by omega) (by omega) (by simp) rfl)) ea_nil)) (by show 2 ≤ 100000; decide)) (by omega) fun H3 k3 g3 => ?_
      refine ⟨fun b' o z1 z2 z3 q => k3 b' o z2 (e2 _ _ (e b' o z1 z2 z3 q)), (g1.mono e2).keep (g.mono e2).lst.choose_spec n12 k3, g3, k3 _ _ n23.symm (e2 _ _ r3), _, _, rfl⟩
    rintro σ' H' ⟨e, g1, g, r3, v1, v2, rfl⟩
    refine s_forR1 (n := (GlaBase.num b 16 2 : Int)) (ea_cons (ev_op (ev_fld (ev_var rfl) (facts _ (e)).1 cl T.Drawing.na_counts dF_counts) ev_c (rv_ixL (facts _ (e)).2.2 (at_of (j := 2) rfl rfl))) ea_nil) (by omega)
      (fun i σ' H' => Ex3 l1 l2 l3 H H' ∧ GrowP K l1 (pz4 b) (GlaBase.num b 12 2) H' ∧ GrowP K l2 (lz2 b) (GlaBase.num b 14 2) H' ∧ GrowP K l3 (mz4 b) i H' ∧ ∃ v1 v2, σ' = [some (.ref x), some (.ref d), v1, v2]) (fun H2 e2 => ⟨fun b' o z1 z2 z3 q => e2 _ _ (e b' o z1 z2 z3 q), g1.mono e2, g.mono e2, GrowP.zero (e2 _ _ r3), v1, v2, rfl⟩) ?_ ?_
    · rintro i σ' H' hi ⟨e, g1, g2, g, v1, v2, rfl⟩
      obtain ⟨fx, fd, fc⟩ := facts H' e
      have D' : DCt K T.Drawing.C H' x sz w h (GlaBase.num b 12 2) (GlaBase.num b 14 2) (GlaBase.num b 16 2) := ⟨dx, c, l1, l2, l3, fx, fc⟩
      refine q_asg (ev_meth (ev_var rfl) fx dF_no (ea_cons (ev_var rfl) ea_nil) (spv_pl D' rfl)) fun H2 e2 => ?_
      refine s_grow (f := mz4 b) (i := i) (g.mono e2) (ev_fld (ev_var rfl) (e2 _ _ fx) cl T.Drawing.na_marks dF_marks)
        (eu_tup (ea_cons (ev_call (ea_cons (ev_var rfl) (ea_cons (ev_var rfl) (ea_cons ev_c ea_nil))) (spv_number (m := 4) (ex_l e2 fd) (by show (20 + 8 * GlaBase.num b 12 2 + 4 * GlaBase.num b 14 2 + 12 * i) + 4 ≤ _; omega) (by omega) rfl rfl))
          (ea_cons (ev_call (ea_cons (ev_var rfl) (ea_cons (ev_op (ev_var rfl) ev_c rv_I0) (ea_cons ev_c ea_nil))) (spv_number (p := (20 + 8 * GlaBase.num b 12 2 + 4 * GlaBase.num b 14 2 + 12 * i) + 4) (m := 4) (ex_l e2 fd) (by omega) (by omega) (by simp) rfl)) ea_nil)) (by show 2 ≤ 100000; decide)) (by omega) fun H3 k3 g3 => ?_
      refine ⟨fun b' o z1 z2 z3 q => k3 b' o z3 (e2 _ _ (e b' o z1 z2 z3 q)), (g1.mono e2).keep (g.mono e2).lst.choose_spec n13 k3, (g2.mono e2).keep (g.mono e2).lst.choose_spec n23 k3, g3, _, _, rfl⟩
    rintro σ' H' ⟨e, g1, g2, g, v1, v2, rfl⟩
    exact k H' e g1 g2 g
end
end Lead
namespace Lead
open PySem PySem.Spec PyProof.Rows L2 Evl LeadT
/-! ### lists of ints and of points as data -/
def ptD (p : Z2) : PyData := .tuple [.int p.1, .int p.2]
theorem layInts : ∀ ns : List Int, PyData.canLayAll0 (ns.map PyData.int) = true ∧ PyData.depthAll (ns.map PyData.int) = 0
  | [] => ⟨by simp [PyData.canLayAll0], by simp [PyData.depthAll]⟩
  | n :: ns => by
    obtain ⟨h1, h2⟩ := layInts ns
    simp [PyData.canLayAll0, PyData.canLay0, PyData.depthAll, PyData.depth, h1, h2]
theorem shapedInts (ns : List Int) : SeqAt.shaped (.list (ns.map PyData.int)) = true := by
  unfold SeqAt.shaped
  simp [PyData.canLay0, PyData.depth, layInts ns]
theorem shapedPt (p : Z2) : SeqAt.shaped (ptD p) = true := by
  unfold SeqAt.shaped ptD
  simp [PyData.canLay0, PyData.canLayAll0, PyData.depth, PyData.depthAll]
theorem layPts : ∀ ps : List Z2, PyData.canLayAll0 (ps.map ptD) = true ∧ PyData.depthAll (ps.map ptD) ≤ 1
  | [] => ⟨by simp [PyData.canLayAll0], by simp [PyData.depthAll]⟩
  | p :: ps => by
    obtain ⟨h1, h2⟩ := layPts ps
    refine ⟨by simp [PyData.canLayAll0, PyData.canLay0, ptD, h1], ?_⟩
    have h3 : PyData.depth (ptD p) = 1 := by simp [ptD, PyData.depth, PyData.depthAll]
    rw [List.map_cons]
    unfold PyData.depthAll
    omega
theorem shapedPts (ps : List Z2) : SeqAt.shaped (.list (ps.map ptD)) = true := by
  unfold SeqAt.shaped
  have := layPts ps
  have h4 : PyData.depth (.list (ps.map ptD)) = PyData.depthAll (ps.map ptD) + 1 := by simp [PyData.depth]
  have h5 : PyData.canLay0 (.list (ps.map ptD)) = true := by simp [PyData.canLay0, this.1]
  rw [h5, Bool.true_and, decide_eq_true_eq]
  omega
theorem eqvInts : ∀ ns ms : List Int, PyData.eqvAll (ns.map PyData.int) (ms.map PyData.int) = decide (ns = ms)
  | [], [] => by simp [PyData.eqvAll]
  | [], _ :: _ => by simp [PyData.eqvAll]
  | _ :: _, [] => by simp [PyData.eqvAll]
  | n :: ns, m :: ms => by
    simp only [List.map_cons, PyData.eqvAll, PyData.eqv, eqvInts ns ms]
    by_cases h : n = m <;> by_cases k : ns = ms <;> simp [h, k]
theorem eqvPt (p q : Z2) : PyData.eqv (ptD p) (ptD q) = decide (p = q) := by
  obtain ⟨p1, p2⟩ := p
  obtain ⟨q1, q2⟩ := q
  simp only [ptD, PyData.eqv, PyData.eqvAll, Bool.and_true, Prod.mk.injEq]
  by_cases h : p1 = q1 <;> by_cases k : p2 = q2 <;> simp [h, k]
theorem anyPt (ps : List Z2) (p : Z2) : ((ps.map ptD).any fun z => PyData.eqv z (ptD p)) = decide (p ∈ ps) := by
  rw [List.any_map, Bool.eq_iff_iff]
  simp only [List.any_eq_true, Function.comp, eqvPt, decide_eq_true_eq]
  constructor
  · rintro ⟨x, h1, h2⟩
    rw [← h2]
    exact h1
  · intro h
    exact ⟨p, h, rfl⟩
section
variable {K : PySem.W.Frag} {H H' : Hp} {a l : Addr}
theorem dpInts0 : ∀ ns : List Int, DpAll K H (ns.map V.int) (ns.map PyData.int)
  | [] => .nil
  | n :: ns => .cons (.int n) (dpInts0 ns)
theorem dpInts {ns : List Int} (h : SqL K H a (ns.map V.int)) : Dp K H (.ref a) (.list (ns.map PyData.int)) := .lst h (dpInts0 ns)
theorem dpPt {p : Z2} (h : P2 K H a p) : Dp K H (.ref a) (ptD p) := .tup h (.cons (.int _) (.cons (.int _) .nil))
theorem dpPts0 : ∀ (as : List Addr) (ps : List Z2), as.length = ps.length → (∀ (i : Nat) (a : Addr) (p : Z2), as[i]? = some a → ps[i]? = some p → P2 K H a p) → DpAll K H (as.map V.ref) (ps.map ptD)
  | [], [], _, _ => .nil
  | [], _ :: _, h, _ => by simp at h
  | _ :: _, [], h, _ => by simp at h
  | a :: as, p :: ps, h, k => .cons (dpPt (k 0 a p rfl rfl)) (dpPts0 as ps (by simpa using h) fun i b q z1 z2 => k (i + 1) b q (by simpa using z1) (by simpa using z2))
theorem dpPts {ps : List Z2} (h : PtL K H l ps) : Dp K H (.ref l) (.list (ps.map ptD)) := by
  obtain ⟨as, h1, h2, h3⟩ := h
  exact .lst h1 (dpPts0 as ps h2 h3)
/-- a point in a list of points -/
theorem rv_inPts {p : Z2} {ps : List Z2} (h : P2 K H a p) (hl : PtL K H l ps) : RV (rInD K) (.ref a) (.ref l) H (.bl (decide (p ∈ ps))) := fun H1 e Q q =>
  ⟨ptD p, ps.map ptD, dpPt (h.mono e), dpPts (hl.mono e), shapedPt p, shapedPts ps, by rw [anyPt]; exact q H1 (Ex.refl H1)⟩
theorem rv_eqInts {b : Addr} {ns ms : List Int} (h : SqL K H a (ns.map V.int)) (k : SqL K H b (ms.map V.int)) : RV (rEqD K) (.ref a) (.ref b) H (.bl (decide (ns = ms))) := fun H1 e Q q =>
  ⟨_, _, dpInts (ex_l e h), dpInts (ex_l e k), shapedInts ns, shapedInts ms, by
    have : PyData.eqv (.list (ns.map PyData.int)) (.list (ms.map PyData.int)) = decide (ns = ms) := eqvInts ns ms
    rw [this]
    exact q H1 (Ex.refl H1)⟩
theorem rv_neInts {b : Addr} {ns ms : List Int} (h : SqL K H a (ns.map V.int)) (k : SqL K H b (ms.map V.int)) : RV (rNeD K) (.ref a) (.ref b) H (.bl (!decide (ns = ms))) := fun H1 e Q q =>
  ⟨_, _, dpInts (ex_l e h), dpInts (ex_l e k), shapedInts ns, shapedInts ms, by
    have : PyData.eqv (.list (ns.map PyData.int)) (.list (ms.map PyData.int)) = decide (ns = ms) := eqvInts ns ms
    rw [this]
    exact q H1 (Ex.refl H1)⟩
variable {σ : L2.St} {te : TE} {D : Ends} {t : TA} {E : XK} {C : Addr}
theorem s_unpack {q : Addr} {p : Z2} {i j : Nat} (h : Ev te σ H (.ref q)) (hq : P2 K H q p) (k : ∀ H1, Ex H H1 → D.nx ((σ.set i (some (.int p.1))).set j (some (.int p.2))) H1) : tAsg te (gTup K 2 (gCons (gName i) (gCons (gName j) gNil))) D σ H :=
  h H (Ex.refl H) _ fun H1 e => ⟨q, vz p, rfl, hq.mono e, rfl, _, _, rfl, _, _, rfl, rfl, k H1 e⟩
theorem q_unpack {q : Addr} {p : Z2} {i j : Nat} {tz : TS} (h : Ev te σ H (.ref q)) (hq : P2 K H q p) (k : ∀ H1, Ex H H1 → tz D ((σ.set i (some (.int p.1))).set j (some (.int p.2))) H1) : tSeq (tAsg te (gTup K 2 (gCons (gName i) (gCons (gName j) gNil)))) tz D σ H :=
  s_unpack (D := { D with nx := tz D }) h hq k
/-- ask(..) as a statement -/
theorem x_ask {b : Bool} {r p : Int} (ha : EvA t σ H [.bl b, .int r, .int p]) (h2 : b = false → ExcP C (noF r p) H E) (h1 : b = true → ∀ H1, Ex H H1 → D.nx σ H1) : tDrop (tCall (spAsk C) [] E t) D σ H :=
  ha H (Ex.refl H) _ fun H1 e => ⟨b, r, p, rfl, fun hb H2 e2 => h1 hb H2 (e.trans e2), fun hb => (h2 hb).mono e⟩
theorem y_ask {b : Bool} {r p : Int} {tz : TS} (ha : EvA t σ H [.bl b, .int r, .int p]) (h2 : b = false → ExcP C (noF r p) H E) (h1 : b = true → ∀ H1, Ex H H1 → tz D σ H1) : tSeq (tDrop (tCall (spAsk C) [] E t)) tz D σ H :=
  x_ask (D := { D with nx := tz D }) ha h2 h1
end
/-! ### the drawing's first rules -/
open GlaBase in
def headF (b : List UInt8) : Option Fault :=
  if GlaPlan.within GlaPlan.SMALLEST GlaPlan.LARGEST (num b 4 4) = false then some ⟨2, 4⟩
  else if GlaPlan.within GlaPlan.SMALLEST GlaPlan.LARGEST (num b 8 4) = false then some ⟨2, 8⟩
  else if GlaPlan.within 4 GlaPlan.POINTS (num b 12 2) = false then some ⟨2, 12⟩
  else if GlaPlan.within 4 GlaPlan.LINES (num b 14 2) = false then some ⟨2, 14⟩
  else if GlaPlan.within 1 GlaPlan.MARKS (num b 16 2) = false then some ⟨2, 16⟩
  else if num b 18 2 ≠ 0 then some ⟨2, 18⟩
  else if b.length ≠ GlaPlan.HEAD + 8 * num b 12 2 + 4 * num b 14 2 + 12 * num b 16 2 then some ⟨3, GlaPlan.HEAD⟩
  else none
open GlaBase in
def preF (b : List UInt8) : Option Fault := if b.length < GlaPlan.HEAD then some ⟨1, b.length⟩ else if b.take 4 ≠ GlaPlan.MAGIC then some ⟨1, 0⟩ else headF b
theorem judge_pre (b : List UInt8) : GlaPlan.judgePlan b = match preF b with
    | some f => .error f
    | none => match (GlaPlan.parts b).fault with
      | some e => .error e
      | none => .ok (GlaPlan.parts b) := by
  unfold GlaPlan.judgePlan preF headF
  repeat' split
  all_goals first | rfl | simp_all
/-- what a def that may refuse does: the fault leaves, or all is well -/
def OutP (C : Addr) (o : Option GlaBase.Fault) (H : Hp) (Q : VK) (E : XK) : Prop := (∀ f, o = some f → ExcP C (noF f.rule f.place) H E) ∧ (o = none → RetV .non H Q)
section
variable {P : Program} {w : World} {K : PySem.W.Frag} {mg : Str → Option Value} {base : Heap}
theorem within_iff {a b n : Nat} : GlaPlan.within a b n = (decide ((a : Int) ≤ (n : Int)) && decide ((n : Int) ≤ (b : Int))) := by
  unfold GlaPlan.within
  rw [Bool.eq_iff_iff]
  simp
def spCheckHead (K : PySem.W.Frag) (C CN : Addr) : Sp := fun vs H Q E => ∃ (d a : Addr) (b : List UInt8), vs = [.ref d, .ref a] ∧ SqL K H d (bz b) ∧ 20 ≤ b.length ∧ DCt K C H a b.length (GlaBase.num b 4 4) (GlaBase.num b 8 4) (GlaBase.num b 12 2) (GlaBase.num b 14 2) (GlaBase.num b 16 2) ∧ OutP CN (headF b) H Q E
theorem bz_at {b : List UInt8} {i : Nat} (h : i < b.length) : (bz b)[i]? = some (.int ((b[i].toNat : Nat) : Int)) := by
  unfold bz
  rw [List.getElem?_map, List.getElem?_eq_getElem h]
  rfl
theorem num2_zero {b : List UInt8} (h : 20 ≤ b.length) : GlaBase.num b 18 2 = (b[18]'(by omega)).toNat + 256 * (b[19]'(by omega)).toNat := by
  have e1 := num_succ (b := b) (p := 18) (i := 0) (c := b[18]'(by omega)) (List.getElem?_eq_getElem _)
  have e2 := num_succ (b := b) (p := 18) (i := 1) (c := b[19]'(by omega)) (List.getElem?_eq_getElem _)
  have e0 : GlaBase.num b 18 0 = 0 := by simp [GlaBase.num, GlaBase.numLe]
  rw [e2, e1, e0]
  omega
theorem ok_check_head (T : Txt K mg) : FnOk P w K mg base (L2.CX P w) 4 T.check_head.f T.check_head.fd ["data", "drawing"] (spCheckHead K T.Drawing.C T.x_NoCartoon.C) := by
  refine T.check_head.F.okX sc_check_head (fun vs H Q E h => ?_) (fun cdv A outer s H vs Q E hr h => ?_)
  · obtain ⟨d, a, b, rfl, _⟩ := h
    rfl
  · refine ⟨_, (pss_cons (ps_expr (pe_call (ok_ask T) (hr.mono (by decide)) rfl T.ask.g T.ask.F.kp T.ask.b .nil (passes_call (takes_of rfl rfl rfl rfl) (fun _ _ _ _ h => h)) (pa_cons (pe_chain op_le op_le (pe_glob (v := .int (16)) rfl T.c_LEAST_SIDE.choose_spec ⟨_, rfl⟩) (pe_fld (pv 1) rfl) (pe_glob (v := .int (1048575)) rfl T.c_GREATEST_SIDE.choose_spec ⟨_, rfl⟩)) (pa_cons pe_int (pa_cons pe_int pa_nil)))))
    (pss_cons (ps_expr (pe_call (ok_ask T) (hr.mono (by decide)) rfl T.ask.g T.ask.F.kp T.ask.b .nil (passes_call (takes_of rfl rfl rfl rfl) (fun _ _ _ _ h => h)) (pa_cons (pe_chain op_le op_le (pe_glob (v := .int (16)) rfl T.c_LEAST_SIDE.choose_spec ⟨_, rfl⟩) (pe_fld (pv 1) rfl) (pe_glob (v := .int (1048575)) rfl T.c_GREATEST_SIDE.choose_spec ⟨_, rfl⟩)) (pa_cons pe_int (pa_cons pe_int pa_nil)))))
    (pss_cons (ps_expr (pe_call (ok_ask T) (hr.mono (by decide)) rfl T.ask.g T.ask.F.kp T.ask.b .nil (passes_call (takes_of rfl rfl rfl rfl) (fun _ _ _ _ h => h)) (pa_cons (pe_chain op_le op_le pe_int (pe_ix ix_list (pe_fld (pv 1) rfl) pe_int (fun _ _ => rfl)) pe_int) (pa_cons pe_int (pa_cons pe_int pa_nil)))))
    (pss_cons (ps_expr (pe_call (ok_ask T) (hr.mono (by decide)) rfl T.ask.g T.ask.F.kp T.ask.b .nil (passes_call (takes_of rfl rfl rfl rfl) (fun _ _ _ _ h => h)) (pa_cons (pe_chain op_le op_le pe_int (pe_ix ix_list (pe_fld (pv 1) rfl) pe_int (fun _ _ => rfl)) pe_int) (pa_cons pe_int (pa_cons pe_int pa_nil)))))
    (pss_cons (ps_expr (pe_call (ok_ask T) (hr.mono (by decide)) rfl T.ask.g T.ask.F.kp T.ask.b .nil (passes_call (takes_of rfl rfl rfl rfl) (fun _ _ _ _ h => h)) (pa_cons (pe_chain op_le op_le pe_int (pe_ix ix_list (pe_fld (pv 1) rfl) pe_int (fun _ _ => rfl)) pe_int) (pa_cons pe_int (pa_cons pe_int pa_nil)))))
    (pss_cons (ps_expr (pe_call (ok_ask T) (hr.mono (by decide)) rfl T.ask.g T.ask.F.kp T.ask.b .nil (passes_call (takes_of rfl rfl rfl rfl) (fun _ _ _ _ h => h)) (pa_cons (pe_and (pe_cmpR op_eq (pe_ix ix_list (pv 0) pe_int (fun _ _ => rfl)) pe_int (nomark _)) (pe_one (pe_cmpR op_eq (pe_ix ix_list (pv 0) pe_int (fun _ _ => rfl)) pe_int (nomark _)))) (pa_cons pe_int (pa_cons pe_int pa_nil)))))
    (pss_one (ps_expr (pe_call (ok_ask T) (hr.mono (by decide)) rfl T.ask.g T.ask.F.kp T.ask.b .nil (passes_call (takes_of rfl rfl rfl rfl) (fun _ _ _ _ h => h)) (pa_cons (pe_cmpR op_eq (pe_callB call_len_seq (by rfl) T.n_len PySem.boot_len (pa_cons (pv 0) pa_nil)) (pe_meth0 (pv 1) T.Drawing.cl T.Drawing.whole_size.m (ok_Drawing_whole_size T) (hr.mono (by decide)) T.Drawing.whole_size.b .nil pass0) (nomark _)) (pa_cons pe_int (pa_cons (pe_glob (v := .int (20)) rfl T.c_HEAD.choose_spec ⟨_, rfl⟩) pa_nil)))))))))))), ?_⟩
    obtain ⟨d, a, b, rfl, hd, hl, D, ⟨kE, kO⟩⟩ := h
    obtain ⟨dx, c, l1, l2, l3, hx, hc⟩ := id D
    have cl := T.Drawing.cl
    unfold headF at kE kO
    simp only [within_iff] at kE kO
    -- the width
    refine y_ask (ea_cons (ev_chain ev_c (ev_fld (ev_var rfl) hx cl T.Drawing.na_width dF_width) rv_I0 (fun _ => ev_c) (fun _ => rv_I0)) (ea_cons ev_c (ea_cons ev_c ea_nil))) (fun t1 => ?_) (fun t1 H1 e1 => ?_)
    · exact kE ⟨2, 4⟩ (by rw [if_pos]; exact t1)
    rw [if_neg (by rw [Bool.not_eq_false]; exact t1)] at kE kO
    refine y_ask (ea_cons (ev_chain ev_c (ev_fld (ev_var rfl) (e1 _ _ hx) cl T.Drawing.na_height dF_height) rv_I0 (fun _ => ev_c) (fun _ => rv_I0)) (ea_cons ev_c (ea_cons ev_c ea_nil))) (fun t2 => ?_) (fun t2 H2 e2 => ?_)
    · exact (kE ⟨2, 8⟩ (by rw [if_pos]; exact t2)).mono e1
    rw [if_neg (by rw [Bool.not_eq_false]; exact t2)] at kE kO
    have e2 := e1.trans e2
    refine y_ask (ea_cons (ev_chain ev_c (ev_op (ev_fld (ev_var rfl) (e2 _ _ hx) cl T.Drawing.na_counts dF_counts) ev_c (rv_ixL (ex_l e2 hc) (at_of (j := 0) rfl rfl))) rv_I0 (fun _ => ev_c) (fun _ => rv_I0)) (ea_cons ev_c (ea_cons ev_c ea_nil))) (fun t3 => ?_) (fun t3 H3 e3 => ?_)
    · exact (kE ⟨2, 12⟩ (by rw [if_pos]; exact t3)).mono e2
    rw [if_neg (by rw [Bool.not_eq_false]; exact t3)] at kE kO
    have e3 := e2.trans e3
    refine y_ask (ea_cons (ev_chain ev_c (ev_op (ev_fld (ev_var rfl) (e3 _ _ hx) cl T.Drawing.na_counts dF_counts) ev_c (rv_ixL (ex_l e3 hc) (at_of (j := 1) rfl rfl))) rv_I0 (fun _ => ev_c) (fun _ => rv_I0)) (ea_cons ev_c (ea_cons ev_c ea_nil))) (fun t4 => ?_) (fun t4 H4 e4 => ?_)
    · exact (kE ⟨2, 14⟩ (by rw [if_pos]; exact t4)).mono e3
    rw [if_neg (by rw [Bool.not_eq_false]; exact t4)] at kE kO
    have e4 := e3.trans e4
    refine y_ask (ea_cons (ev_chain ev_c (ev_op (ev_fld (ev_var rfl) (e4 _ _ hx) cl T.Drawing.na_counts dF_counts) ev_c (rv_ixL (ex_l e4 hc) (at_of (j := 2) rfl rfl))) rv_I0 (fun _ => ev_c) (fun _ => rv_I0)) (ea_cons ev_c (ea_cons ev_c ea_nil))) (fun t5 => ?_) (fun t5 H5 e5 => ?_)
    · exact (kE ⟨2, 16⟩ (by rw [if_pos]; exact t5)).mono e4
    rw [if_neg (by rw [Bool.not_eq_false]; exact t5)] at kE kO
    have e5 := e4.trans e5
    have z := num2_zero hl
    refine y_ask (ea_cons (ev_andV (ev_op (ev_op (ev_var rfl) ev_c (rv_ixL (ex_l e5 hd) (at_of (j := 18) rfl (bz_at (by omega))))) ev_c (rv_eq rfl)) fun _ => (ev_op (ev_op (ev_var rfl) ev_c (rv_ixL (ex_l e5 hd) (at_of (j := 19) rfl (bz_at (by omega))))) ev_c (rv_eq rfl))) (ea_cons ev_c (ea_cons ev_c ea_nil))) (fun t6 => ?_) (fun t6 H6 e6 => ?_)
    · refine (kE ⟨2, 18⟩ (by
        rw [if_pos]
        intro q
        simp only [Bool.and_eq_false_iff, decide_eq_false_iff_not, V.int.injEq] at t6
        omega)).mono e5
    rw [if_neg (by
      simp only [Bool.and_eq_true, decide_eq_true_eq, V.int.injEq] at t6
      omega)] at kE kO
    have e6 := e5.trans e6
    refine x_ask (ea_cons (ev_op (ev_lenL (ev_var rfl) (ex_l e6 hd)) (ev_meth (ev_var rfl) (e6 _ _ hx) dF_no ea_nil (spv_ct (D.mono e6))) (rv_eq rfl)) (ea_cons ev_c (ea_cons ev_c ea_nil))) (fun t7 => ?_) (fun t7 H7 e7 => ?_)
    · refine (kE ⟨3, 20⟩ ?_).mono e6
      rw [if_pos]
      · rfl
      · simp only [decide_eq_false_iff_not, V.int.injEq, bz, List.length_map, gWhole] at t7
        show b.length ≠ 20 + _ + _ + _
        omega
    · refine kO ?_ H7 (e6.trans e7)
      rw [if_neg]
      simp only [decide_eq_true_eq, V.int.injEq, bz, List.length_map, gWhole] at t7
      show ¬ b.length ≠ 20 + _ + _ + _
      omega
end
end Lead
namespace Lead
open PySem PySem.Spec PyProof.Rows L2 Evl LeadT
theorem parts_pts (b : List UInt8) : (GlaPlan.parts b).pts.map ptZ = (List.range (GlaBase.num b 12 2)).map (pz4 b) := by
  show ((List.range _).map _).map ptZ = _
  rw [List.map_map]
  rfl
theorem parts_lines (b : List UInt8) : (GlaPlan.parts b).lines.map lnZ = (List.range (GlaBase.num b 14 2)).map (lz2 b) := by
  show ((List.range _).map _).map lnZ = _
  rw [List.map_map]
  rfl
theorem parts_marks (b : List UInt8) : (GlaPlan.parts b).marks.map mkZ = (List.range (GlaBase.num b 16 2)).map (mz4 b) := by
  show ((List.range _).map _).map mkZ = _
  rw [List.map_map]
  rfl
theorem parts_len (b : List UInt8) : (GlaPlan.parts b).pts.length = GlaBase.num b 12 2 ∧ (GlaPlan.parts b).lines.length = GlaBase.num b 14 2 ∧ (GlaPlan.parts b).marks.length = GlaBase.num b 16 2 := by
  refine ⟨?_, ?_, ?_⟩
  · show ((List.range _).map _).length = _
    rw [List.length_map, List.length_range]
  · show ((List.range _).map _).length = _
    rw [List.length_map, List.length_range]
  · show ((List.range _).map _).length = _
    rw [List.length_map, List.length_range]
theorem head_ok {b : List UInt8} (h : headF b = none) : b.length = 20 + 8 * GlaBase.num b 12 2 + 4 * GlaBase.num b 14 2 + 12 * GlaBase.num b 16 2 ∧ (GlaBase.num b 12 2 ≤ 4096 ∧ GlaBase.num b 14 2 ≤ 8192 ∧ GlaBase.num b 16 2 ≤ 2048) := by
  unfold headF at h
  repeat' split at h
  all_goals first | cases h | skip
  rename_i h1 h2 h3 h4 h5 h6 h7
  have q3 := (Bool.not_eq_false _).mp h3
  have q4 := (Bool.not_eq_false _).mp h4
  have q5 := (Bool.not_eq_false _).mp h5
  unfold GlaPlan.within GlaPlan.POINTS at q3
  unfold GlaPlan.within GlaPlan.LINES at q4
  unfold GlaPlan.within GlaPlan.MARKS at q5
  simp only [Bool.and_eq_true, decide_eq_true_eq] at q3 q4 q5
  have q7 : b.length = 20 + 8 * GlaBase.num b 12 2 + 4 * GlaBase.num b 14 2 + 12 * GlaBase.num b 16 2 := Decidable.not_not.mp h7
  omega
theorem magic_iff {b : List UInt8} (h : 4 ≤ b.length) : b.take 4 = GlaPlan.MAGIC ↔ (b.take 4).map (fun c => ((c.toNat : Nat) : Int)) = [71, 76, 65, 49] := by
  constructor
  · intro e
    rw [e]
    rfl
  · intro e
    match b, h with
    | c0 :: c1 :: c2 :: c3 :: r, _ =>
      simp only [List.take_succ_cons, List.take_zero, List.map_cons, List.map_nil, List.cons.injEq, and_true] at e
      obtain ⟨e0, e1, e2, e3⟩ := e
      have key : ∀ (c : UInt8) (n : Nat) (hn : n < 256), ((c.toNat : Nat) : Int) = (n : Int) → c = UInt8.ofNat n := by
        intro c n hn q
        have : c.toNat = n := by omega
        rw [← this]
        simp
      rw [key c0 71 (by decide) e0, key c1 76 (by decide) e1, key c2 65 (by decide) e2, key c3 49 (by decide) e3]
      rfl
section
variable {P : Program} {w : World} {K : PySem.W.Frag} {mg : Str → Option Value} {base : Heap}
def spDrawingOf (K : PySem.W.Frag) (C CN : Addr) : Sp := fun vs H Q E => ∃ (d : Addr) (b : List UInt8), vs = [.ref d] ∧ SqL K H d (bz b) ∧ (∀ f, preF b = some f → ExcP CN (noF f.rule f.place) H E) ∧
  (preF b = none → ∀ (H' : Hp) (a : Addr), Ex H H' → H a = none → Dw K C H' a b.length (GlaPlan.parts b) → Q (.ref a) H')
theorem ok_drawing_of (T : Txt K mg) : FnOk P w K mg base (L2.CX P w) 5 T.drawing_of.f T.drawing_of.fd ["data"] (spDrawingOf K T.Drawing.C T.x_NoCartoon.C) := by
  refine T.drawing_of.F.okX sc_drawing_of (fun vs H Q E h => ?_) (fun cdv A outer s H vs Q E hr h => ?_)
  · obtain ⟨d, b, rfl, _⟩ := h
    rfl
  · refine ⟨_, (pss_cons (ps_expr (pe_call (ok_ask T) (hr.mono (by decide)) rfl T.ask.g T.ask.F.kp T.ask.b .nil (passes_call (takes_of rfl rfl rfl rfl) (fun _ _ _ _ h => h)) (pa_cons (pe_cmpR op_ge (pe_callB call_len_seq (by rfl) T.n_len PySem.boot_len (pa_cons (pv 0) pa_nil)) (pe_glob (v := .int (20)) rfl T.c_HEAD.choose_spec ⟨_, rfl⟩) (nomark _)) (pa_cons pe_int (pa_cons (pe_callB call_len_seq (by rfl) T.n_len PySem.boot_len (pa_cons (pv 0) pa_nil)) pa_nil)))))
    (pss_cons (ps_expr (pe_call (ok_ask T) (hr.mono (by decide)) rfl T.ask.g T.ask.F.kp T.ask.b .nil (passes_call (takes_of rfl rfl rfl rfl) (fun _ _ _ _ h => h)) (pa_cons (pe_cmpR (op_eqD (hu64 hr)) (pe_slice sl_list (pv 0) (po_some pe_int) (po_some pe_int)) (pe_glob (v := .ref T.a_MAGIC) rfl T.g_MAGIC rfl) (nomark _)) (pa_cons pe_int (pa_cons pe_int pa_nil)))))
    (pss_cons (ps_set (i := 1) sc_drawing_of.nd rfl (.inl rfl) (pe_make T.Drawing.M (ok_Drawing_init T) (hr.mono (by decide)) rfl T.Drawing.g T.Drawing.init.b .nil pass0 (pa_cons (pv 0) pa_nil)))
    (pss_cons (ps_expr (pe_call (ok_check_head T) (hr.mono (by decide)) rfl T.check_head.g T.check_head.F.kp T.check_head.b .nil (passes_call (takes_of rfl rfl rfl rfl) (fun _ _ _ _ h => h)) (pa_cons (pv 0) (pa_cons (pv 1) pa_nil))))
    (pss_cons (ps_expr (pe_meth (pv 1) T.Drawing.cl T.Drawing.fill.m (ok_Drawing_fill T) (hr.mono (by decide)) T.Drawing.fill.b .nil pass0 (pa_cons (pv 0) pa_nil)))
    (pss_one (ps_ret (pv 1)))))))), ?_⟩
    obtain ⟨d, b, rfl, hd, kE, kO⟩ := h
    have dz : (bz b).length = b.length := by unfold bz; rw [List.length_map]
    unfold preF at kE kO
    refine y_ask (ea_cons (ev_op (ev_lenL (ev_var rfl) hd) ev_c rv_I0) (ea_cons ev_c (ea_cons (ev_lenL (ev_var rfl) hd) ea_nil))) (fun t1 => ?_) (fun t1 H1 e1 => ?_)
    · rw [dz] at t1 ⊢
      have t1 : b.length < GlaPlan.HEAD := by
        have := of_decide_eq_false t1
        show b.length < 20
        omega
      exact kE ⟨1, b.length⟩ (by rw [if_pos t1])
    have t1 : 20 ≤ b.length := by
      rw [dz] at t1
      have := of_decide_eq_true t1
      omega
    rw [if_neg (by show ¬ b.length < 20; omega)] at kE kO
    have hmag : SqL K H1 T.a_MAGIC ([71, 76, 65, 49].map V.int) := .inr T.l_MAGIC
    have cut : cutV (bz b) (some 0) (some 4) = ((b.take 4).map (fun c => ((c.toNat : Nat) : Int))).map V.int := by
      unfold cutV
      have s1 : HT.sIx (bz b).length 0 (some 0) = 0 := by unfold HT.sIx; simp
      have s2 : HT.sIx (bz b).length (bz b).length (some 4) = 4 := by
        rw [dz]
        unfold HT.sIx
        simp
        omega
      rw [s1, s2]
      unfold bz
      rw [List.drop_zero, List.map_map, ← List.map_take]
      rfl
    refine y_ask (b := decide ((b.take 4).map (fun c => ((c.toNat : Nat) : Int)) = [71, 76, 65, 49])) (ea_cons (ev_opL1 (el_sl (ev_var rfl) (eo_some ev_c) (eo_some ev_c) (ex_l e1 hd)) (fun H2 e2 => ev_c) (fun p H2 hp e2 => rv_eqInts (sq_of (by rw [hp, cut])) (ex_l e2 hmag))) (ea_cons ev_c (ea_cons ev_c ea_nil))) (fun t2 => ?_) (fun t2 H2 e2 => ?_)
    · have := of_decide_eq_false t2
      exact (kE ⟨1, 0⟩ (by rw [if_pos]; rw [Ne, magic_iff (by omega)]; exact this)).mono e1
    rw [if_neg (by rw [Ne, Decidable.not_not, magic_iff (by omega)]; exact of_decide_eq_true t2)] at kE kO
    have e2 := e1.trans e2
    -- the drawing
    refine ⟨_, rfl, fun x dx nx nd ne => ?_⟩
    refine ⟨x, dx, d, b, rfl, upd_same, ?_, t1, fun H3 c l1 l2 l3 b3 x3 c3 l3s l3d l3n => ⟨rfl, ?_⟩⟩
    · rcases ex_l e2 hd with (q | ⟨o, q⟩) | q
      · exact .inl (.inl (by rw [upd_ne (ne_of_none q nx), upd_ne (ne_of_none q nd)]; exact q))
      · exact .inl (.inr ⟨o, by rw [upd_ne (ne_of_none q nx), upd_ne (ne_of_none q nd)]; exact q⟩)
      · exact .inr q
    have e3 : Ex H2 H3 := fun y o q => b3 y o (ne_of_none q nx) (by rw [upd_ne (ne_of_none q nx), upd_ne (ne_of_none q nd)]; exact q)
    have hd3 := ex_l (e2.trans e3) hd
    have D3 : DCt K T.Drawing.C H3 x b.length (GlaBase.num b 4 4) (GlaBase.num b 8 4) (GlaBase.num b 12 2) (GlaBase.num b 14 2) (GlaBase.num b 16 2) := ⟨dx, c, l1, l2, l3, x3, sq_of c3⟩
    refine ⟨_, rfl, _, rfl, ?_⟩
    refine ⟨d, x, b, rfl, hd3, t1, D3, fun f hf => (kE f hf).mono (e2.trans e3), fun hn H4 e4 => ?_⟩
    have hh := head_ok hn
    have free2 : ∀ l, (upd (upd H2 dx (HO.own x)) x (HO.ins T.Drawing.C dx [])) l = none → H2 l = none := by
      intro l q
      by_cases c1 : l = x
      · rw [c1, upd_same] at q
        cases q
      · rw [upd_ne c1] at q
        by_cases c2 : l = dx
        · rw [c2, upd_same] at q
          cases q
        · rw [upd_ne c2] at q
          exact q
    have n1 := free2 _ l3n.2.1
    have n2 := free2 _ l3n.2.2.1
    have n3 := free2 _ l3n.2.2.2
    refine ⟨_, rfl, x, dx, _, rfl, e4 _ _ x3, dF_no, _, rfl, ?_⟩
    refine ⟨x, dx, c, l1, l2, l3, d, b, b.length, GlaBase.num b 4 4, GlaBase.num b 8 4, rfl, e4 _ _ x3, fun H5 e5 => sqL_3 (ex_l e2 hd) (e3.trans e4) ⟨n1, n2, n3⟩ e5, e4 _ _ c3, ⟨e4 _ _ l3s.1, e4 _ _ l3s.2.1, e4 _ _ l3s.2.2⟩, l3d, hh.1, hh.2, fun H5 e5 g1 g2 g3 => ?_⟩
    refine ⟨_, rfl, ?_⟩
    have e24 := e3.trans e4
    have pl := parts_len b
    refine kO hn H5 x (fun y o q => ?_) (fresh_back e2 nx) ⟨dx, c, l1, l2, l3, ?_⟩
    · have q2 := e2 _ _ q
      exact e5 y o (ne_of_none q2 n1) (ne_of_none q2 n2) (ne_of_none q2 n3) (e24 _ _ q2)
    · refine ⟨e5 _ _ (ne_of x3 l3s.1 (by intro z; cases z)) (ne_of x3 l3s.2.1 (by intro z; cases z)) (ne_of x3 l3s.2.2 (by intro z; cases z)) (e4 _ _ x3), ?_, ?_, ?_, ?_⟩
      · rw [pl.1, pl.2.1, pl.2.2]
        exact sq_of (e5 _ _ l3d.2.2.2.1 l3d.2.2.2.2.1 l3d.2.2.2.2.2 (e4 _ _ c3))
      · rw [parts_pts]
        exact g1.pt
      · rw [parts_lines]
        exact g2.pt
      · rw [parts_marks]
        exact g3.pt
end
end Lead
namespace Lead
open PySem PySem.Spec PyProof.Rows L2 Evl LeadT
section
variable {K : PySem.W.Frag} {σ : L2.St} {H H' : Hp} {ta tb te : TE} {D : Ends} {tu tz : TS} {g : TG} {a : Addr} {xs : List V} {v : V}
/-- for i, x in enumerate(xs) -/
theorem x_forE {j1 j2 : Nat} {tl : TE} (h : Ev tl σ H (.ref a)) (hx : SqL K H a xs) (Pv : Nat → L2.St → Hp → Prop) (h0 : ∀ H1, Ex H H1 → Pv 0 σ H1) (hl : ∀ i σ' H', i ≤ xs.length → Pv i σ' H' → SqL K H' a xs)
    (hs : ∀ i x σ' H', xs[i]? = some x → Pv i σ' H' → ∀ H2, Ex H' H2 → tu { D with nx := Pv (i + 1), ct := Pv (i + 1), bk := D.nx } ((σ'.set j1 (some (.int (i : Nat)))).set j2 (some x)) H2) (hd : ∀ σ' H', Pv xs.length σ' H' → D.nx σ' H') :
    tFor (iEnum K (tCons tl tNil)) (gTup K 2 (gCons (gName j1) (gCons (gName j2) gNil))) tu D σ H :=
  h H (Ex.refl H) _ fun H1 e => ⟨a, xs, rfl, ex_l e hx, for_it walk_enum Pv (h0 H1 e) hl (fun i x σ' H' H2 hi p y => by
    obtain ⟨U, z1, z2, rfl, hU, rfl, e1, e2⟩ := y
    have e1 : z1 = V.int (i : Nat) := (Option.some.inj e1).symm
    subst e1
    exact ⟨U, _, rfl, st_of upd_same, rfl, _, _, rfl, _, _, rfl, rfl, hs i z2 σ' H' e2 p _ (Ex.new hU)⟩) hd⟩
/-- over a new list -/
theorem x_forEN {j1 j2 : Nat} {tl : TE} (h : EvL tl σ H xs) (Pv : Addr → Nat → L2.St → Hp → Prop) (h0 : ∀ t H1, H t = none → Ex H H1 → H1 t = some (.lst xs) → Pv t 0 σ H1) (hl : ∀ t i σ' H', i ≤ xs.length → Pv t i σ' H' → SqL K H' t xs)
    (hs : ∀ t i x σ' H', xs[i]? = some x → Pv t i σ' H' → ∀ H2, Ex H' H2 → tu { D with nx := Pv t (i + 1), ct := Pv t (i + 1), bk := D.nx } ((σ'.set j1 (some (.int (i : Nat)))).set j2 (some x)) H2) (hd : ∀ t σ' H', Pv t xs.length σ' H' → D.nx σ' H') :
    tFor (iEnum K (tCons tl tNil)) (gTup K 2 (gCons (gName j1) (gCons (gName j2) gNil))) tu D σ H :=
  h H (Ex.refl H) _ fun t H1 ht e h1 => ⟨t, xs, rfl, sq_of h1, for_it walk_enum (Pv t) (h0 t H1 ht e h1) (hl t) (fun i x σ' H' H2 hi p y => by
    obtain ⟨U, z1, z2, rfl, hU, rfl, e1, e2⟩ := y
    have e1 : z1 = V.int (i : Nat) := (Option.some.inj e1).symm
    subst e1
    exact ⟨U, _, rfl, st_of upd_same, rfl, _, _, rfl, _, _, rfl, rfl, hs t i z2 σ' H' e2 p _ (Ex.new hU)⟩) (hd t)⟩
theorem y_forE {j1 j2 : Nat} {tl : TE} (h : Ev tl σ H (.ref a)) (hx : SqL K H a xs) (Pv : Nat → L2.St → Hp → Prop) (h0 : ∀ H1, Ex H H1 → Pv 0 σ H1) (hl : ∀ i σ' H', i ≤ xs.length → Pv i σ' H' → SqL K H' a xs)
    (hs : ∀ i x σ' H', xs[i]? = some x → Pv i σ' H' → ∀ H2, Ex H' H2 → tu { D with nx := Pv (i + 1), ct := Pv (i + 1), bk := tz D } ((σ'.set j1 (some (.int (i : Nat)))).set j2 (some x)) H2) (hd : ∀ σ' H', Pv xs.length σ' H' → tz D σ' H') :
    tSeq (tFor (iEnum K (tCons tl tNil)) (gTup K 2 (gCons (gName j1) (gCons (gName j2) gNil))) tu) tz D σ H := x_forE (D := { D with nx := tz D }) h hx Pv h0 hl hs hd
/-- an if that binds the same name in both ways -/
theorem y_when {t : TT} {b : Bool} (h : EvT t σ H b) (h1 : b = true → ∀ H1, Ex H H1 → tu { D with nx := tz D } σ H1) (h2 : b = false → ∀ H1, Ex H H1 → tz D σ H1) : tSeq (tIfS t tu tNext) tz D σ H := q_when h h1 h2
end
/-! ### the first of a list at which something holds -/
theorem firstAt_some {α : Type} {p : Nat → α → Bool} {l : List α} {i : Nat} {x : α} (h : l[i]? = some x) (hp : p i x = true) (hb : ∀ j y, j < i → l[j]? = some y → p j y = false) : GlaBase.firstAt p l = some i := by
  unfold GlaBase.firstAt
  have lt := (List.getElem?_eq_some_iff.mp h).1
  have lz : i < l.zipIdx.length := by rw [List.length_zipIdx]; exact lt
  have : l.zipIdx.find? (fun (x : α × Nat) => p x.2 x.1) = some (x, i) := by
    rw [List.find?_eq_some_iff_getElem]
    refine ⟨hp, i, lz, ?_, fun j hj => ?_⟩
    · rw [List.getElem_zipIdx]
      have e := (List.getElem?_eq_some_iff.mp h).2
      simp [e]
    · rw [List.getElem_zipIdx]
      have := hb j (l[j]'(by omega)) hj (List.getElem?_eq_getElem (by omega))
      simp [this]
  rw [this]
  rfl
theorem rangeFind_some {p : Nat → Bool} {n i : Nat} (hi : i < n) (hp : p i = true) (hb : ∀ j, j < i → p j = false) : (List.range n).find? p = some i := by
  rw [List.find?_eq_some_iff_getElem]
  refine ⟨hp, i, by simpa using hi, by simp, fun j hj => ?_⟩
  simp [hb j hj]
theorem rangeFind_none {p : Nat → Bool} {n : Nat} (hb : ∀ j, j < n → p j = false) : (List.range n).find? p = none := by
  rw [List.find?_eq_none]
  intro j hj
  rw [hb j (List.mem_range.mp hj)]
  simp
open GlaBase GlaPlan in
section
/-- the rules one by one -/
def f4 (S : Plan) : Option Fault := (firstBad (fun (p : Pt) => decide (p.x ≤ S.w) && decide (p.y ≤ S.h)) Pt.below S.pts).map fun i => ⟨4, ptPlace i⟩
def f5 (S : Plan) : Option Fault := (firstBad (fun (l : Nat × Nat) => decide (l.1 < l.2) && decide (l.2 < S.pts.length)) lineBelow S.lines).map fun i => ⟨5, linePlace S i⟩
def f6 (S : Plan) : Option Fault := if frameOk S = false then some ⟨6, HEAD⟩ else none
def f7 (S : Plan) : Option Fault := (firstAt (touches S) S.lines).map fun i => ⟨7, linePlace S i⟩
def f8 (S : Plan) : Option Fault := ((List.range S.pts.length).find? fun (i : Nat) => decide ((S.near i).length < 2)).map fun i => ⟨8, ptPlace i⟩
def f9 (S : Plan) : Option Fault := ((List.range S.pts.length).find? fun (i : Nat) => !((seenFrom S.nears S.pts.length 0 (noneSeen S.pts.length)).getD i false)).map fun i => ⟨9, ptPlace i⟩
def f10 (S : Plan) : Option Fault := ((List.range S.pts.length).find? (cuts S.nears S.pts.length)).map fun i => ⟨10, ptPlace i⟩
def f11 (S : Plan) : Option Fault := (firstBad (markOk S) markBelow S.marks).map fun i => ⟨11, markPlace S i⟩
def f12 (S : Plan) : Option Fault := (twice S S.outlines 0 [] S.marks).map fun i => ⟨12, markPlace S i⟩
def f13 (S : Plan) : Option Fault := if S.marks.length < S.outlines.length then some ⟨13, S.size⟩ else none
def andThen (a b : Option Fault) : Option Fault := match a with
  | some f => some f
  | none => b
theorem fault_chain (S : Plan) : S.fault = andThen (f4 S) (andThen (f5 S) (andThen (f6 S) (andThen (f7 S) (andThen (f8 S) (andThen (f9 S) (andThen (f10 S) (andThen (f11 S) (andThen (f12 S) (f13 S))))))))) := by
  unfold Plan.fault f4 f5 f6 f7 f8 f9 f10 f11 f12 f13 andThen
  cases firstBad (fun (p : Pt) => decide (p.x ≤ S.w) && decide (p.y ≤ S.h)) Pt.below S.pts with
  | some i => rfl
  | none =>
    cases firstBad (fun (l : Nat × Nat) => decide (l.1 < l.2) && decide (l.2 < S.pts.length)) lineBelow S.lines with
    | some i => rfl
    | none =>
      simp only [Option.map_none]
      by_cases c6 : frameOk S = false
      · simp only [c6, if_true]
      · simp only [c6, if_false]
        cases firstAt (touches S) S.lines with
        | some i => rfl
        | none =>
          simp only [Option.map_none]
          cases ((List.range S.pts.length).find? fun (i : Nat) => decide ((S.near i).length < 2)) with
          | some i => rfl
          | none =>
            simp only [Option.map_none]
            cases ((List.range S.pts.length).find? fun (i : Nat) => !((seenFrom S.nears S.pts.length 0 (noneSeen S.pts.length)).getD i false)) with
            | some i => rfl
            | none =>
              simp only [Option.map_none]
              cases ((List.range S.pts.length).find? (cuts S.nears S.pts.length)) with
              | some i => rfl
              | none =>
                simp only [Option.map_none]
                cases firstBad (markOk S) markBelow S.marks with
                | some i => rfl
                | none =>
                  simp only [Option.map_none]
                  cases twice S S.outlines 0 [] S.marks with
                  | some i => rfl
                  | none => rfl
end
theorem OutP.mono {C : Addr} {o : Option GlaBase.Fault} {H H' : Hp} {Q : VK} {E : XK} (h : OutP C o H Q E) (e : Ex H H') : OutP C o H' Q E := ⟨fun f hf => (h.1 f hf).mono e, fun hn H2 e2 => h.2 hn H2 (e.trans e2)⟩
theorem behind_pt (p q : GlaPlan.Pt) : behindZ (ptZ p) (ptZ q) = q.below p := by
  rw [Bool.eq_iff_iff, ptBelow_iff]
  unfold behindZ ptZ lexGt
  dsimp only
  split
  · simp only [lexGt]
    split
    · simp only [Bool.false_eq_true, false_iff]
      omega
    · simp only [decide_eq_true_eq]
      omega
  · simp only [decide_eq_true_eq]
    omega
theorem behind_ln (p q : Nat × Nat) : lexGt [(p.1 : Int), (p.2 : Int)] [(q.1 : Int), (q.2 : Int)] = GlaPlan.lineBelow q p := by
  rw [Bool.eq_iff_iff, lineBelow_iff]
  unfold lexGt
  split
  · simp only [lexGt]
    split
    · simp only [Bool.false_eq_true, false_iff]
      omega
    · simp only [decide_eq_true_eq]
      omega
  · simp only [decide_eq_true_eq]
    omega
section
variable {P : Program} {w : World} {K : PySem.W.Frag} {mg : Str → Option Value} {base : Heap}
/-- a check of a drawing -/
def badF {α : Type} (ok : α → Bool) (before : α → α → Bool) (l : List α) (i : Nat) (x : α) : Bool := !ok x || (decide (0 < i) && (l[i - 1]?).elim false fun y => !before y x)
theorem firstBad_eq {α : Type} (ok : α → Bool) (before : α → α → Bool) (l : List α) : GlaPlan.firstBad ok before l = GlaBase.firstAt (badF ok before l) l := by
  unfold GlaPlan.firstBad
  congr 1
  funext i x
  unfold badF
  cases l[i - 1]? <;> rfl
abbrev bad4 (S : GlaPlan.Plan) : Nat → GlaPlan.Pt → Bool := badF (fun (p : GlaPlan.Pt) => decide (p.x ≤ S.w) && decide (p.y ≤ S.h)) GlaPlan.Pt.below S.pts
theorem f4_eq (S : GlaPlan.Plan) : f4 S = (GlaBase.firstAt (bad4 S) S.pts).map fun i => ⟨4, GlaPlan.ptPlace i⟩ := by
  unfold f4
  rw [firstBad_eq]
/-- what a check of an order asks: not bad -/
theorem badF_prev {α : Type} {ok : α → Bool} {before : α → α → Bool} {l : List α} {i : Nat} {x y : α} (ip : 0 < i) (h : l[i - 1]? = some y) : (!badF ok before l i x) = (ok x && before y x) := by
  unfold badF
  rw [decide_eq_true ip, h]
  show (!(!ok x || (true && !before y x))) = _
  cases ok x <;> cases before y x <;> rfl
theorem badF_first {α : Type} {ok : α → Bool} {before : α → α → Bool} {l : List α} {i : Nat} {x : α} (ip : ¬ 0 < i) : (!badF ok before l i x) = ok x := by
  unfold badF
  rw [decide_eq_false ip]
  show (!(!ok x || (false && _))) = _
  cases ok x <;> rfl
def spChk (K : PySem.W.Frag) (C CN : Addr) (pre : GlaPlan.Plan → Prop) (F : GlaPlan.Plan → Nat → Option GlaBase.Fault) : Sp := fun vs H Q E => ∃ (a : Addr) (sz : Nat) (S : GlaPlan.Plan), vs = [.ref a] ∧ Dw K C H a sz S ∧ pre S ∧ OutP CN (F S sz) H Q E
abbrev tru : GlaPlan.Plan → Prop := fun S => S.pts.length ≤ 4096 ∧ S.lines.length ≤ 8192 ∧ S.marks.length ≤ 2048
theorem map_at {α : Type} {f : α → Z2} {l : List α} {i : Nat} {x : α} (h : l[i]? = some x) : (l.map f)[i]? = some (f x) := by
  rw [List.getElem?_map, h]
  rfl
theorem ok_check_points (T : Txt K mg) : FnOk P w K mg base (L2.CX P w) 4 T.check_points.f T.check_points.fd ["drawing"] (spChk K T.Drawing.C T.x_NoCartoon.C tru fun S _ => f4 S) := by
  refine T.check_points.F.okX sc_check_points (fun vs H Q E h => ?_) (fun cdv A outer s H vs Q E hr h => ?_)
  · obtain ⟨a, sz, S, rfl, _⟩ := h
    rfl
  · refine ⟨_, (pss_one (ps_for (passes_of rfl) rfl (pi_enum (by rfl) T.n_enumerate (pa_cons (pe_fld (pv 0) rfl) pa_nil)) (pg_tup rfl (pgs_cons (pg_name (i := 1) sc_check_points.nd rfl (Or.inl rfl)) (pgs_cons (pg_name (i := 2) sc_check_points.nd rfl (Or.inl rfl)) pgs_nil))) (pss_cons (ps_set (i := 3) sc_check_points.nd rfl (.inl rfl) (pe_and (pe_cmpR op_le (pe_ix ix_tup (pv 2) pe_int (fun _ _ => rfl)) (pe_fld (pv 0) rfl) (nomark _)) (pe_one (pe_cmpR op_le (pe_ix ix_tup (pv 2) pe_int (fun _ _ => rfl)) (pe_fld (pv 0) rfl) (nomark _)))))
    (pss_cons (ps_if (pt_cmpR op_gt (pv 1) pe_int (nomark _)) (pss_one (ps_set (i := 3) sc_check_points.nd rfl (.inl rfl) (pe_and (pv 3) (pe_one (pe_call (ok_comes_behind T) (hr.mono (by decide)) rfl T.comes_behind.g T.comes_behind.F.kp T.comes_behind.b .nil pass0 (pa_cons (pv 2) (pa_cons (pe_ix ix_list (pe_fld (pv 0) rfl) (pe_op op_sub (pv 1) pe_int) (fun _ _ => rfl)) pa_nil))))))) pss_nil)
    (pss_one (ps_expr (pe_call (ok_ask T) (hr.mono (by decide)) rfl T.ask.g T.ask.F.kp T.ask.b .nil (passes_call (takes_of rfl rfl rfl rfl) (fun _ _ _ _ h => h)) (pa_cons (pv 3) (pa_cons pe_int (pa_cons (pe_meth (pv 0) T.Drawing.cl T.Drawing.point_place.m (ok_Drawing_point_place T) (hr.mono (by decide)) T.Drawing.point_place.b .nil pass0 (pa_cons (pv 1) pa_nil)) pa_nil)))))))))), ?_⟩
    obtain ⟨a, sz, S, rfl, hD, hpre, ⟨kE, kO⟩⟩ := h
    have ct := hD.ct
    obtain ⟨dx, c, l1, l2, l3, D⟩ := hD
    have cl := T.Drawing.cl
    obtain ⟨as, q1, q2, q3⟩ := id D.ps
    rw [List.length_map] at q2
    refine x_forE (ev_fld (ev_var rfl) D.ob cl T.Drawing.na_points dF_points) q1 (fun i σ' H' => Ex H H' ∧ (∀ j y, j < i → S.pts[j]? = some y → bad4 S j y = false) ∧ ∃ v1 v2 v3, σ' = [some (.ref a), v1, v2, v3])
      (fun H1 e1 => ⟨e1, fun j y hj => by omega, none, none, none, rfl⟩) (fun i σ' H' _ p => ex_l p.1 q1) ?_ ?_
    · rintro i x σ' H' hi ⟨e, hb, v1, v2, v3, rfl⟩ H2 e2
      have e2 := e.trans e2
      have lt : i < S.pts.length := by
        have := (List.getElem?_eq_some_iff.mp hi).1
        rw [List.length_map] at this
        omega
      have hpt := pt_get (S := S) lt
      obtain ⟨q, hq, hz⟩ := PtL.at_ (l := l1) (by rw [List.length_map]; exact q2) q3 (map_at (f := ptZ) hpt)
      rw [hi] at hq
      have hq := Option.some.inj hq
      subst hq
      have fin : ∀ (b : Bool) (H3 : Hp), Ex H H3 → b = (!bad4 S i (S.pt i)) → tDrop (tCall (spAsk T.x_NoCartoon.C) [] E (tCons (tVar 3) (tCons (tC (.int 4)) (tCons (tMeth T.Drawing.C "point_place" (spPl K T.Drawing.C gPp) [] E0 (tVar 0) (tCons (tVar 1) tNil)) tNil))))
          { nx := fun σ' H' => Ex H H' ∧ (∀ j y, j < i + 1 → S.pts[j]? = some y → bad4 S j y = false) ∧ ∃ v1 v2 v3, σ' = [some (.ref a), v1, v2, v3], ct := fun σ' H' => Ex H H' ∧ (∀ j y, j < i + 1 → S.pts[j]? = some y → bad4 S j y = false) ∧ ∃ v1 v2 v3, σ' = [some (.ref a), v1, v2, v3], bk := fun _ H' => Q .non H', rt := Q }
          [some (.ref a), some (.int (i : Nat)), some (.ref q), some (.bl b)] H3 := by
        intro b H3 e3 hbb
        refine x_ask (ea_cons (ev_var rfl) (ea_cons ev_c (ea_cons (ev_meth (ev_var rfl) (e3 _ _ D.ob) dF_no (ea_cons (ev_var rfl) ea_nil) (spv_pl (ct.mono e3) rfl)) ea_nil))) (fun t => ?_) (fun t H4 e4 => ⟨e3.trans e4, fun j y hj hy => ?_, _, _, _, rfl⟩)
        · have bt : bad4 S i (S.pt i) = true := by rw [t] at hbb; simpa using hbb.symm
          have ff := firstAt_some hpt bt (fun j y hj hy => hb j y hj hy)
          exact (kE ⟨4, GlaPlan.ptPlace i⟩ (by show f4 S = _; rw [f4_eq, ff]; rfl)).mono e3
        · by_cases c : j < i
          · exact hb j y c hy
          · have : j = i := by omega
            subst this
            rw [hpt] at hy
            have := Option.some.inj hy
            subst this
            rw [t] at hbb
            simpa using hbb.symm
      refine q_asg (ev_andV (ev_op (ev_p0 (ev_var rfl) (hz.mono e2)) (ev_fld (ev_var rfl) (e2 _ _ D.ob) cl T.Drawing.na_width dF_width) rv_I0) fun _ => (ev_op (ev_p1 (ev_var rfl) (hz.mono e2)) (ev_fld (ev_var rfl) (e2 _ _ D.ob) cl T.Drawing.na_height dF_height) rv_I0)) fun H3 e3 => ?_
      have e3 := e2.trans e3
      have gd : (decide ((ptZ (S.pt i)).1 ≤ (S.w : Int)) && decide ((ptZ (S.pt i)).2 ≤ (S.h : Int))) = (decide ((S.pt i).x ≤ S.w) && decide ((S.pt i).y ≤ S.h)) := by
        unfold ptZ
        rw [Bool.eq_iff_iff]
        simp
      refine y_when (et_test (ev_op (ev_var rfl) ev_c rv_I0)) (fun t H4 e4 => ?_) (fun t H4 e4 => ?_)
      · have e4 := e3.trans e4
        have ip : 0 < i := by
          have := of_decide_eq_true t
          omega
        have hpv := pt_get (S := S) (i := i - 1) (by omega)
        obtain ⟨u, hu, huz⟩ := PtL.at_ (l := l1) (by rw [List.length_map]; exact q2) q3 (map_at (f := ptZ) hpv)
        refine s_asg (ev_andV (ev_var rfl) fun _ => (ev_call (ea_cons (ev_var rfl) (ea_cons (ev_op (ev_fld (ev_var rfl) (e4 _ _ D.ob) cl T.Drawing.na_points dF_points) (ev_op (ev_var rfl) ev_c rv_I0) (rv_ixL (ex_l e4 q1) (at_of (j := i - 1) (by omega) hu))) ea_nil)) (spv_behind (hz.mono e4) (huz.mono e4)))) fun H5 e5 => ?_
        refine fin _ H5 (e4.trans e5) ?_
        rw [badF_prev ip hpv, gd, behind_pt]
      · have e4 := e3.trans e4
        have ip : ¬ 0 < i := by
          have := of_decide_eq_false t
          omega
        refine fin _ H4 e4 ?_
        rw [badF_first ip, gd]
    · rintro σ' H' ⟨e, hb, v1, v2, v3, rfl⟩
      refine kO ?_ H' e
      show f4 S = none
      rw [f4_eq, firstAt_none.mpr fun i x hx => hb i x (by rw [List.length_map, q2]; exact (List.getElem?_eq_some_iff.mp hx).1) hx]
      rfl
end
end Lead
namespace Lead
open PySem PySem.Spec PyProof.Rows L2 Evl LeadT
section
variable {P : Program} {w : World} {K : PySem.W.Frag} {mg : Str → Option Value} {base : Heap}
abbrev bad5 (S : GlaPlan.Plan) : Nat → Nat × Nat → Bool := badF (fun (l : Nat × Nat) => decide (l.1 < l.2) && decide (l.2 < S.pts.length)) GlaPlan.lineBelow S.lines
theorem f5_eq (S : GlaPlan.Plan) : f5 S = (GlaBase.firstAt (bad5 S) S.lines).map fun i => ⟨5, GlaPlan.linePlace S i⟩ := by
  unfold f5
  rw [firstBad_eq]
theorem rv_gtT {H : Hp} {a b : Addr} {p q : Z2} (hp : P2 K H a p) (hq : P2 K H b q) : RV (rGtT K) (.ref a) (.ref b) H (.bl (lexGt [p.1, p.2] [q.1, q.2])) := fun H1 e Q k => ⟨a, b, [p.1, p.2], [q.1, q.2], rfl, rfl, hp.mono e, hq.mono e, k H1 (Ex.refl H1)⟩
theorem ok_check_lines (T : Txt K mg) : FnOk P w K mg base (L2.CX P w) 4 T.check_lines.f T.check_lines.fd ["drawing"] (spChk K T.Drawing.C T.x_NoCartoon.C tru fun S _ => f5 S) := by
  refine T.check_lines.F.okX sc_check_lines (fun vs H Q E h => ?_) (fun cdv A outer s H vs Q E hr h => ?_)
  · obtain ⟨a, sz, S, rfl, _⟩ := h
    rfl
  · refine ⟨_, (pss_one (ps_for (passes_of rfl) rfl (pi_enum (by rfl) T.n_enumerate (pa_cons (pe_fld (pv 0) rfl) pa_nil)) (pg_tup rfl (pgs_cons (pg_name (i := 1) sc_check_lines.nd rfl (Or.inl rfl)) (pgs_cons (pg_name (i := 2) sc_check_lines.nd rfl (Or.inl rfl)) pgs_nil))) (pss_cons (ps_set (i := 3) sc_check_lines.nd rfl (.inl rfl) (pe_chain op_lt op_lt (pe_ix ix_tup (pv 2) pe_int (fun _ _ => rfl)) (pe_ix ix_tup (pv 2) pe_int (fun _ _ => rfl)) (pe_callB call_len_seq (by rfl) T.n_len PySem.boot_len (pa_cons (pe_fld (pv 0) rfl) pa_nil))))
    (pss_cons (ps_if (pt_cmpR op_gt (pv 1) pe_int (nomark _)) (pss_one (ps_set (i := 3) sc_check_lines.nd rfl (.inl rfl) (pe_and (pv 3) (pe_one (pe_cmpR (op_gtT (hu0 hr)) (pv 2) (pe_ix ix_list (pe_fld (pv 0) rfl) (pe_op op_sub (pv 1) pe_int) (fun _ _ => rfl)) (nomark _)))))) pss_nil)
    (pss_one (ps_expr (pe_call (ok_ask T) (hr.mono (by decide)) rfl T.ask.g T.ask.F.kp T.ask.b .nil (passes_call (takes_of rfl rfl rfl rfl) (fun _ _ _ _ h => h)) (pa_cons (pv 3) (pa_cons pe_int (pa_cons (pe_meth (pv 0) T.Drawing.cl T.Drawing.line_place.m (ok_Drawing_line_place T) (hr.mono (by decide)) T.Drawing.line_place.b .nil pass0 (pa_cons (pv 1) pa_nil)) pa_nil)))))))))), ?_⟩
    obtain ⟨a, sz, S, rfl, hD, hpre, ⟨kE, kO⟩⟩ := h
    have ct := hD.ct
    obtain ⟨dx, c, l1, l2, l3, D⟩ := hD
    have cl := T.Drawing.cl
    obtain ⟨as, q1, q2, q3⟩ := id D.ls
    obtain ⟨bs, b1, b2, b3⟩ := id D.ps
    rw [List.length_map] at q2 b2
    refine x_forE (ev_fld (ev_var rfl) D.ob cl T.Drawing.na_lines dF_lines) q1 (fun i σ' H' => Ex H H' ∧ (∀ j y, j < i → S.lines[j]? = some y → bad5 S j y = false) ∧ ∃ v1 v2 v3, σ' = [some (.ref a), v1, v2, v3])
      (fun H1 e1 => ⟨e1, fun j y hj => by omega, none, none, none, rfl⟩) (fun i σ' H' _ p => ex_l p.1 q1) ?_ ?_
    · rintro i x σ' H' hi ⟨e, hb, v1, v2, v3, rfl⟩ H2 e2
      have e2 := e.trans e2
      have lt : i < S.lines.length := by
        have := (List.getElem?_eq_some_iff.mp hi).1
        rw [List.length_map] at this
        omega
      have hpt : S.lines[i]? = some S.lines[i] := List.getElem?_eq_getElem lt
      generalize hL : S.lines[i] = L at hpt
      obtain ⟨q, hq, hz⟩ := PtL.at_ (l := l2) (by rw [List.length_map]; exact q2) q3 (map_at (f := lnZ) hpt)
      rw [hi] at hq
      have hq := Option.some.inj hq
      subst hq
      have fin : ∀ (b : Bool) (H3 : Hp), Ex H H3 → b = (!bad5 S i L) → tDrop (tCall (spAsk T.x_NoCartoon.C) [] E (tCons (tVar 3) (tCons (tC (.int 5)) (tCons (tMeth T.Drawing.C "line_place" (spPl K T.Drawing.C gLp) [] E0 (tVar 0) (tCons (tVar 1) tNil)) tNil))))
          { nx := fun σ' H' => Ex H H' ∧ (∀ j y, j < i + 1 → S.lines[j]? = some y → bad5 S j y = false) ∧ ∃ v1 v2 v3, σ' = [some (.ref a), v1, v2, v3], ct := fun σ' H' => Ex H H' ∧ (∀ j y, j < i + 1 → S.lines[j]? = some y → bad5 S j y = false) ∧ ∃ v1 v2 v3, σ' = [some (.ref a), v1, v2, v3], bk := fun _ H' => Q .non H', rt := Q }
          [some (.ref a), some (.int (i : Nat)), some (.ref q), some (.bl b)] H3 := by
        intro b H3 e3 hbb
        refine x_ask (ea_cons (ev_var rfl) (ea_cons ev_c (ea_cons (ev_meth (ev_var rfl) (e3 _ _ D.ob) dF_no (ea_cons (ev_var rfl) ea_nil) (spv_pl (ct.mono e3) rfl)) ea_nil))) (fun t => ?_) (fun t H4 e4 => ⟨e3.trans e4, fun j y hj hy => ?_, _, _, _, rfl⟩)
        · have bt : bad5 S i L = true := by rw [t] at hbb; simpa using hbb.symm
          have ff := firstAt_some hpt bt (fun j y hj hy => hb j y hj hy)
          exact (kE ⟨5, GlaPlan.linePlace S i⟩ (by show f5 S = _; rw [f5_eq, ff]; rfl)).mono e3
        · by_cases c : j < i
          · exact hb j y c hy
          · have : j = i := by omega
            subst this
            rw [hpt] at hy
            have := Option.some.inj hy
            subst this
            rw [t] at hbb
            simpa using hbb.symm
      refine q_asg (ev_chain (ev_p0 (ev_var rfl) (hz.mono e2)) (ev_p1 (ev_var rfl) (hz.mono e2)) rv_I0 (fun _ => ev_lenL (ev_fld (ev_var rfl) (e2 _ _ D.ob) cl T.Drawing.na_points dF_points) (ex_l e2 b1)) (fun _ => rv_I0)) fun H3 e3 => ?_
      have e3 := e2.trans e3
      have gd : (decide ((lnZ L).1 < (lnZ L).2) && decide ((lnZ L).2 < ((bs.map V.ref).length : Int))) = (decide (L.1 < L.2) && decide (L.2 < S.pts.length)) := by
        unfold lnZ
        rw [List.length_map, b2, Bool.eq_iff_iff]
        simp
      refine y_when (et_test (ev_op (ev_var rfl) ev_c rv_I0)) (fun t H4 e4 => ?_) (fun t H4 e4 => ?_)
      · have e4 := e3.trans e4
        have ip : 0 < i := by
          have := of_decide_eq_true t
          omega
        have hpv : S.lines[i - 1]? = some (S.lines[i - 1]'(by omega)) := List.getElem?_eq_getElem (by omega)
        obtain ⟨u, hu, huz⟩ := PtL.at_ (l := l2) (by rw [List.length_map]; exact q2) q3 (map_at (f := lnZ) hpv)
        refine s_asg (ev_andV (ev_var rfl) fun _ => ev_op (ev_var rfl) (ev_op (ev_fld (ev_var rfl) (e4 _ _ D.ob) cl T.Drawing.na_lines dF_lines) (ev_op (ev_var rfl) ev_c rv_I0) (rv_ixL (ex_l e4 q1) (at_of (j := i - 1) (by omega) hu))) (rv_gtT (hz.mono e4) (huz.mono e4))) fun H5 e5 => ?_
        refine fin _ H5 (e4.trans e5) ?_
        rw [badF_prev ip hpv, gd]
        congr 1
        exact behind_ln L _
      · have e4 := e3.trans e4
        have ip : ¬ 0 < i := by
          have := of_decide_eq_false t
          omega
        refine fin _ H4 e4 ?_
        rw [badF_first ip, gd]
    · rintro σ' H' ⟨e, hb, v1, v2, v3, rfl⟩
      refine kO ?_ H' e
      show f5 S = none
      rw [f5_eq, firstAt_none.mpr fun i x hx => hb i x (by rw [List.length_map, q2]; exact (List.getElem?_eq_some_iff.mp hx).1) hx]
      rfl
/-! ### the frame -/
/-- a list of lists of ints -/
def LL (K : PySem.W.Frag) (H : Hp) (l : Addr) (rows : List (List Int)) : Prop := ∃ as : List Addr, SqL K H l (as.map V.ref) ∧ as.length = rows.length ∧ ∀ (i : Nat) (a : Addr) (r : List Int), as[i]? = some a → rows[i]? = some r → SqL K H a (r.map V.int)
theorem LL.mono {H H' : Hp} {l : Addr} {rows : List (List Int)} (h : LL K H l rows) (e : Ex H H') : LL K H' l rows := by
  obtain ⟨as, h1, h2, h3⟩ := h
  exact ⟨as, ex_l e h1, h2, fun i a r x y => ex_l e (h3 i a r x y)⟩
/-- the four edges, in the program's order -/
def onE (S : GlaPlan.Plan) (k : Nat) (p : GlaPlan.Pt) : Bool := if k = 0 then p.x == 0 else if k = 1 then p.x == S.w else if k = 2 then p.y == 0 else p.y == S.h
def rowE (S : GlaPlan.Plan) (k m : Nat) : List Int := ((List.range m).filter fun t => onE S k (S.pt t)).map fun t => ((t : Nat) : Int)
theorem rowE_yes {S : GlaPlan.Plan} {k m : Nat} (h : onE S k (S.pt m) = true) : rowE S k (m + 1) = rowE S k m ++ [(m : Int)] := by
  unfold rowE
  rw [List.range_succ, List.filter_append, List.filter_cons_of_pos (by exact h), List.map_append]
  rfl
theorem rowE_no {S : GlaPlan.Plan} {k m : Nat} (h : onE S k (S.pt m) = false) : rowE S k (m + 1) = rowE S k m := by
  unfold rowE
  rw [List.range_succ, List.filter_append, List.filter_cons_of_neg (by rw [h]; decide)]
  simp
theorem rowE_len (S : GlaPlan.Plan) (k m : Nat) : (rowE S k m).length ≤ m := by
  unfold rowE
  rw [List.length_map]
  have := List.length_filter_le (fun t => onE S k (S.pt t)) (List.range m)
  rw [List.length_range] at this
  exact this
/-- four lists that grow -/
structure Four (H0 H : Hp) (p : Addr) (es : List Addr) (r : Nat → List Int) : Prop where
  ex : Ex H0 H
  pn : H0 p = none
  pl : H p = some (.lst (es.map V.ref))
  len : es.length = 4
  at_ : ∀ k e, es[k]? = some e → H0 e = none ∧ H e = some (.lst ((r k).map V.int)) ∧ e ≠ p
  nd : es.Nodup
theorem Four.mono {H0 H H' : Hp} {p : Addr} {es : List Addr} {r : Nat → List Int} (h : Four H0 H p es r) (e : Ex H H') : Four H0 H' p es r := ⟨h.ex.trans e, h.pn, e _ _ h.pl, h.len, fun k x hx => ⟨(h.at_ k x hx).1, e _ _ (h.at_ k x hx).2.1, (h.at_ k x hx).2.2⟩, h.nd⟩
theorem Four.put {H0 H : Hp} {p : Addr} {es : List Addr} {r r' : Nat → List Int} {k : Nat} {e : Addr} (h : Four H0 H p es r) (hk : es[k]? = some e) (hr : ∀ j, j ≠ k → r' j = r j) : Four H0 (upd H e (.lst ((r' k).map V.int))) p es r' := by
  have q := h.at_ k e hk
  refine ⟨Ex.mut h.ex q.1, h.pn, by rw [upd_ne q.2.2.symm]; exact h.pl, h.len, fun j x hx => ?_, h.nd⟩
  have qx := h.at_ j x hx
  refine ⟨qx.1, ?_, qx.2.2⟩
  by_cases c : j = k
  · subst c
    rw [hk] at hx
    have := Option.some.inj hx
    subst this
    exact upd_same
  · have ne : x ≠ e := by
      intro z
      subst z
      exact c (nd_ix h.nd hx hk)
    rw [upd_ne ne, hr j c]
    exact qx.2.1
theorem Four.ll {H0 H : Hp} {p : Addr} {es : List Addr} {r : Nat → List Int} (h : Four H0 H p es r) : LL K H p [r 0, r 1, r 2, r 3] := by
  refine ⟨es, sq_of h.pl, h.len, fun i a row hi hr => ?_⟩
  have q := sq_of (K := K) (h.at_ i a hi).2.1
  match i, hr with
  | 0, hr => rw [← Option.some.inj hr]; exact q
  | 1, hr => rw [← Option.some.inj hr]; exact q
  | 2, hr => rw [← Option.some.inj hr]; exact q
  | 3, hr => rw [← Option.some.inj hr]; exact q
  | i + 4, hr => simp at hr
def spEdges (K : PySem.W.Frag) (C : Addr) : Sp := fun vs H Q _ => ∃ (a : Addr) (sz : Nat) (S : GlaPlan.Plan), vs = [.ref a] ∧ Dw K C H a sz S ∧ tru S ∧
  ∀ (p : Addr) (H' : Hp), H p = none → Ex H H' → LL K H' p [rowE S 0 S.pts.length, rowE S 1 S.pts.length, rowE S 2 S.pts.length, rowE S 3 S.pts.length] → Q (.ref p) H'
/-- p = [[], [], [], []] -/
theorem y_four {σ : L2.St} {H : Hp} {D : Ends} {tz : TS} {i : Nat} (k : ∀ (p : Addr) (es : List Addr) (H1 : Hp), Four H H1 p es (fun _ => []) → tz D (σ.set i (some (.ref p))) H1) :
    tSeq (tAsg (tLst (tCons (tLst tNil) (tCons (tLst tNil) (tCons (tLst tNil) (tCons (tLst tNil) tNil))))) (gName i)) tz D σ H := by
  refine ⟨by decide, fun e0 n0 => ⟨by decide, fun e1 n1 => ⟨by decide, fun e2 n2 => ⟨by decide, fun e3 n3 => ⟨(by show 4 ≤ sizeLine; decide), fun p np => ?_⟩⟩⟩⟩⟩
  have x1 : Ex H (upd H e0 (.lst [])) := Ex.new n0
  have x2 : Ex H (upd (upd H e0 (.lst [])) e1 (.lst [])) := x1.trans (Ex.new n1)
  have x3 := x2.trans (Ex.new (o := .lst []) n2)
  have x4 := x3.trans (Ex.new (o := .lst []) n3)
  have x5 := x4.trans (Ex.new (o := .lst [V.ref e0, V.ref e1, V.ref e2, V.ref e3]) np)
  have d10 : e1 ≠ e0 := (ne_of_none upd_same n1).symm
  have i0a : (upd (upd H e0 (.lst [])) e1 (.lst [])) e0 = some (.lst []) := by rw [upd_ne d10.symm, upd_same]
  have d20 : e2 ≠ e0 := (ne_of_none i0a n2).symm
  have d21 : e2 ≠ e1 := (ne_of_none upd_same n2).symm
  have i0b : (upd (upd (upd H e0 (.lst [])) e1 (.lst [])) e2 (.lst [])) e0 = some (.lst []) := by rw [upd_ne d20.symm]; exact i0a
  have i1b : (upd (upd (upd H e0 (.lst [])) e1 (.lst [])) e2 (.lst [])) e1 = some (.lst []) := by rw [upd_ne d21.symm, upd_same]
  have d30 : e3 ≠ e0 := (ne_of_none i0b n3).symm
  have d31 : e3 ≠ e1 := (ne_of_none i1b n3).symm
  have d32 : e3 ≠ e2 := (ne_of_none upd_same n3).symm
  have i0c : (upd (upd (upd (upd H e0 (.lst [])) e1 (.lst [])) e2 (.lst [])) e3 (.lst [])) e0 = some (.lst []) := by rw [upd_ne d30.symm]; exact i0b
  have i1c : (upd (upd (upd (upd H e0 (.lst [])) e1 (.lst [])) e2 (.lst [])) e3 (.lst [])) e1 = some (.lst []) := by rw [upd_ne d31.symm]; exact i1b
  have i2c : (upd (upd (upd (upd H e0 (.lst [])) e1 (.lst [])) e2 (.lst [])) e3 (.lst [])) e2 = some (.lst []) := by rw [upd_ne d32.symm, upd_same]
  have i3c : (upd (upd (upd (upd H e0 (.lst [])) e1 (.lst [])) e2 (.lst [])) e3 (.lst [])) e3 = some (.lst []) := upd_same
  have p0 : e0 ≠ p := ne_of_none i0c np
  have p1 : e1 ≠ p := ne_of_none i1c np
  have p2 : e2 ≠ p := ne_of_none i2c np
  have p3 : e3 ≠ p := ne_of_none i3c np
  have f0 : Four H (upd (upd (upd (upd (upd H e0 (.lst [])) e1 (.lst [])) e2 (.lst [])) e3 (.lst [])) p (.lst [V.ref e0, V.ref e1, V.ref e2, V.ref e3])) p [e0, e1, e2, e3] (fun _ => []) := by
    refine ⟨x5, fresh_back x4 np, upd_same, rfl, fun k e he => ?_, by simp [d10.symm, d20.symm, d21.symm, d30.symm, d31.symm, d32.symm]⟩
    match k, he with
    | 0, he => have := Option.some.inj he; subst this; exact ⟨n0, by rw [upd_ne p0]; exact i0c, p0⟩
    | 1, he => have := Option.some.inj he; subst this; exact ⟨fresh_back x1 n1, by rw [upd_ne p1]; exact i1c, p1⟩
    | 2, he => have := Option.some.inj he; subst this; exact ⟨fresh_back x2 n2, by rw [upd_ne p2]; exact i2c, p2⟩
    | 3, he => have := Option.some.inj he; subst this; exact ⟨fresh_back x3 n3, by rw [upd_ne p3]; exact i3c, p3⟩
    | k + 4, he => simp at he
  exact k _ _ _ f0
theorem ok_edges_of (T : Txt K mg) : FnOk P w K mg base CX0 1 T.edges_of.f T.edges_of.fd ["drawing"] (spEdges K T.Drawing.C) := by
  refine T.edges_of.F.ok sc_edges_of (fun vs H Q E h => ?_) (fun cdv A outer s H vs Q E hr h => ?_)
  · obtain ⟨a, sz, S, rfl, _⟩ := h
    rfl
  · refine ⟨_, (pss_cons (ps_set (i := 1) sc_edges_of.nd rfl (.inl rfl) (pe_lst (pa_cons (pe_lst pa_nil) (pa_cons (pe_lst pa_nil) (pa_cons (pe_lst pa_nil) (pa_cons (pe_lst pa_nil) pa_nil))))))
    (pss_cons (ps_for PassesOwn.never rfl (pi_enum (by rfl) T.n_enumerate (pa_cons (pe_fld (pv 0) rfl) pa_nil)) (pg_tup rfl (pgs_cons (pg_name (i := 2) sc_edges_of.nd rfl (Or.inl rfl)) (pgs_cons (pg_tup rfl (pgs_cons (pg_name (i := 3) sc_edges_of.nd rfl (Or.inl rfl)) (pgs_cons (pg_name (i := 4) sc_edges_of.nd rfl (Or.inl rfl)) pgs_nil))) pgs_nil))) (pss_one (ps_for PassesOwn.never rfl (pi_enum (by rfl) T.n_enumerate (pa_cons (pe_lst (pa_cons (pe_cmpR op_eq (pv 3) pe_int (nomark _)) (pa_cons (pe_cmpR op_eq (pv 3) (pe_fld (pv 0) rfl) (nomark _)) (pa_cons (pe_cmpR op_eq (pv 4) pe_int (nomark _)) (pa_cons (pe_cmpR op_eq (pv 4) (pe_fld (pv 0) rfl) (nomark _)) pa_nil))))) pa_nil)) (pg_tup rfl (pgs_cons (pg_name (i := 5) sc_edges_of.nd rfl (Or.inl rfl)) (pgs_cons (pg_name (i := 6) sc_edges_of.nd rfl (Or.inl rfl)) pgs_nil))) (pss_one (ps_if (pt_val (pv 6)) (pss_one (ps_expr (pe_bm PySem.F.plainAttrs_list PySem.F.slot_list_append PySem.F.type_list_append mt_append (pe_ix ix_list (pv 1) (pv 5) (fun _ _ => rfl)) (pa_cons (pv 2) pa_nil)))) pss_nil)))))
    (pss_one (ps_ret (pv 1))))), ?_⟩
    obtain ⟨a, sz, S, rfl, hD, hpre, k⟩ := h
    obtain ⟨dx, c, l1, l2, l3, D⟩ := hD
    have cl := T.Drawing.cl
    obtain ⟨as, q1, q2, q3⟩ := id D.ps
    rw [List.length_map] at q2
    refine y_four fun p es Hs f0' => ?_
    have f0 : Four H Hs p es (fun k => rowE S k 0) := f0'
    refine ev_fld (ev_var rfl) (f0.ex _ _ D.ob) cl T.Drawing.na_points dF_points Hs (Ex.refl Hs) _ fun H1 e1 => ⟨l1, _, rfl, ex_l (f0.ex.trans e1) q1, for_it walk_enum (fun i σ' H' => Four H H' p es (fun k => rowE S k i) ∧ ∃ v1 v2 v3 v4 v5, σ' = [some (.ref a), some (.ref p), v1, v2, v3, v4, v5]) ⟨f0.mono e1, _, _, _, _, _, rfl⟩ (fun i σ' H' _ q => ex_l q.1.ex q1) ?_ ?_⟩
    · rintro i x σ' H' H2 hi ⟨F, v1, v2, v3, v4, v5, rfl⟩ y
      obtain ⟨U, z1, z2, rfl, hU, rfl, ez1, ez2⟩ := y
      have ez1 : z1 = V.int (i : Nat) := (Option.some.inj ez1).symm
      subst ez1
      have F2 := F.mono (Ex.new (o := .tup [V.int (i : Nat), z2]) hU)
      have lt : i < S.pts.length := by
        rw [List.length_map] at hi
        omega
      have hpt := pt_get (S := S) lt
      obtain ⟨q, hq, hz⟩ := PtL.at_ (l := l1) (by rw [List.length_map]; exact q2) q3 (map_at (f := ptZ) hpt)
      have hq := Option.some.inj ((ez2 : (as.map V.ref)[i]? = some z2).symm.trans hq)
      subst hq
      refine ⟨U, _, rfl, st_of upd_same, rfl, _, _, rfl, _, _, rfl, q, _, rfl, hz.mono F2.ex, rfl, _, _, rfl, _, _, rfl, rfl, rfl, ?_⟩
      generalize (upd H' U (.tup [V.int (i : Nat), V.ref q])) = H3 at F2
      -- the four tests
      have bl : ∀ (u m : Nat), V.bl (decide (V.int (u : Int) = V.int (m : Int))) = V.bl (u == m) := by
        intro u m
        congr 1
        rw [Bool.eq_iff_iff]
        simp
        omega
      refine x_forEN (xs := [V.bl ((S.pt i).x == 0), V.bl ((S.pt i).x == S.w), V.bl ((S.pt i).y == 0), V.bl ((S.pt i).y == S.h)]) (el_lst
        (ea_cons (ev_is (ev_op (ev_var rfl) ev_c (rv_eq rfl)) (bl (S.pt i).x 0)) (ea_cons (ev_is (ev_op (ev_var rfl) (ev_fld (ev_var rfl) (F2.ex _ _ D.ob) cl T.Drawing.na_width dF_width) (rv_eq rfl)) (bl (S.pt i).x S.w)) (ea_cons (ev_is (ev_op (ev_var rfl) ev_c (rv_eq rfl)) (bl (S.pt i).y 0)) (ea_cons (ev_is (ev_op (ev_var rfl) (ev_fld (ev_var rfl) (F2.ex _ _ D.ob) cl T.Drawing.na_height dF_height) (rv_eq rfl)) (bl (S.pt i).y S.h)) ea_nil)))) (by show 4 ≤ 100000; decide))
        (fun t m σ' H' => H3 t = none ∧ H' t = some (.lst [V.bl ((S.pt i).x == 0), V.bl ((S.pt i).x == S.w), V.bl ((S.pt i).y == 0), V.bl ((S.pt i).y == S.h)]) ∧ Four H H' p es (fun k => rowE S k (if k < m then i + 1 else i)) ∧ ∃ v4 v5, σ' = [some (.ref a), some (.ref p), some (.int (i : Nat)), some (.int ((S.pt i).x : Int)), some (.int ((S.pt i).y : Int)), v4, v5])
        (fun t H4 nt e4 ht => ⟨nt, ht, F2.mono e4, _, _, rfl⟩) (fun t m σ' H' _ q => sq_of q.2.1) ?_ ?_
      · rintro t m y2 σ' H5 ey2 ⟨nt, g2, F5, w4, w5, rfl⟩ H6 e6
        have hm : m < 4 := (List.getElem?_eq_some_iff.mp ey2).1
        have ey : y2 = V.bl (onE S m (S.pt i)) := by
          match m, hm, ey2 with
          | 0, _, h => exact (Option.some.inj h).symm
          | 1, _, h => exact (Option.some.inj h).symm
          | 2, _, h => exact (Option.some.inj h).symm
          | 3, _, h => exact (Option.some.inj h).symm
        subst ey
        have F6 := F5.mono e6
        have t6 := e6 _ _ g2
        have hm2 : es[m]? = some (es[m]'(by rw [F6.len]; exact hm)) := List.getElem?_eq_getElem _
        have ne : t ≠ es[m]'(by rw [F6.len]; exact hm) := (ne_of_none (F2.at_ m _ hm2).2.1 nt).symm
        refine s_when (et_B (ev_var rfl)) (fun tb H7 e7 => ?_) (fun tb H7 e7 => ?_)
        · have F7 := F6.mono e7
          have q7 := F7.at_ m _ hm2
          refine s_app (xs := (rowE S m (if m < m then i + 1 else i)).map V.int) q7.2.1 (ev_op (ev_var rfl) (ev_var rfl) (rv_ixL (sq_of F7.pl) (at_of rfl (by rw [List.getElem?_map, hm2]; rfl)))) (ev_var rfl) (by
            rw [List.length_map]
            have q1 := rowE_len S m (if m < m then i + 1 else i)
            have q2 := hpre.1
            rw [if_neg (by omega)] at q1 ⊢
            omega) fun H8 e8 => ?_
          have F8 := (F7.mono e8).put (r' := fun k => rowE S k (if k < m + 1 then i + 1 else i)) hm2 (fun j hj => by
            try dsimp only
            by_cases c : j < m
            · rw [if_pos c, if_pos (by omega)]
            · rw [if_neg c, if_neg (by omega)])
          have er : ((rowE S m (if m < m then i + 1 else i)).map V.int ++ [V.int (i : Nat)]) = (rowE S m (if m < m + 1 then i + 1 else i)).map V.int := by
            rw [if_neg (by omega), if_pos (by omega), rowE_yes tb, List.map_append]
            rfl
          rw [er]
          exact ⟨nt, by rw [upd_ne ne]; exact e8 _ _ (e7 _ _ t6), F8, _, _, rfl⟩
        · have F7 := F6.mono e7
          refine ⟨nt, e7 _ _ t6, ⟨F7.ex, F7.pn, F7.pl, F7.len, fun j e he => ?_, F7.nd⟩, _, _, rfl⟩
          have q7 := F7.at_ j e he
          refine ⟨q7.1, ?_, q7.2.2⟩
          rw [q7.2.1]
          by_cases c : j < m
          · rw [if_pos c, if_pos (by omega)]
          · by_cases c2 : j = m
            · subst c2
              rw [if_neg (by omega), if_pos (by omega), rowE_no tb]
            · rw [if_neg c, if_neg (by omega)]
      · rintro t σ' H5 ⟨nt, g2, F5, w4, w5, rfl⟩
        refine ⟨⟨F5.ex, F5.pn, F5.pl, F5.len, fun j e he => ?_, F5.nd⟩, _, _, _, _, _, rfl⟩
        have q7 := F5.at_ j e he
        have lj : j < 4 := by
          have := (List.getElem?_eq_some_iff.mp he).1
          rw [F5.len] at this
          exact this
        refine ⟨q7.1, ?_, q7.2.2⟩
        rw [q7.2.1]
        try dsimp only
        rw [if_pos (by exact lj)]
    · rintro σ' H' ⟨F, v1, v2, v3, v4, v5, rfl⟩
      refine s_ret (ev_var rfl) fun H2 e2 => ?_
      have lenps : (as.map V.ref).length = S.pts.length := by rw [List.length_map, q2]
      rw [lenps] at F
      exact k p H2 F.pn (F.ex.trans e2) (F.mono e2).ll
end
end Lead
namespace Lead
open PySem PySem.Spec PyProof.Rows L2 Evl LeadT
section
variable {K : PySem.W.Frag} {σ : L2.St} {H H' : Hp} {ta tb te : TE} {tr : TA} {D : Ends} {tu tz : TS} {g : TG} {a l : Addr} {xs : List V} {v : V}
/-! ### new lists of new points -/
/-- a new list of points -/
def NPt (K : PySem.W.Frag) (H : Hp) (l : Addr) (ps : List Z2) : Prop := ∃ ts : List Addr, H l = some (.lst (ts.map V.ref)) ∧ ts.length = ps.length ∧ ∀ (i : Nat) (a : Addr) (p : Z2), ts[i]? = some a → ps[i]? = some p → P2 K H a p
theorem NPt.pt {ps : List Z2} (h : NPt K H l ps) : PtL K H l ps := by
  obtain ⟨ts, h1, h2⟩ := h
  exact ⟨ts, sq_of h1, h2⟩
theorem NPt.mono {ps : List Z2} (h : NPt K H l ps) (e : Ex H H') : NPt K H' l ps := by
  obtain ⟨ts, h1, h2, h3⟩ := h
  exact ⟨ts, e _ _ h1, h2, fun i a p x y => (h3 i a p x y).mono e⟩
/-- values that are new points -/
def Pl (K : PySem.W.Frag) (ps : List Z2) (vs : List V) (H : Hp) : Prop := ∃ ts : List Addr, vs = ts.map V.ref ∧ ts.length = ps.length ∧ ∀ (i : Nat) (a : Addr) (p : Z2), ts[i]? = some a → ps[i]? = some p → P2 K H a p
def EvP (K : PySem.W.Frag) (ta : TA) (σ : L2.St) (H : Hp) (ps : List Z2) : Prop := ∀ H1, Ex H H1 → ∀ Q : List V → Hp → Prop, (∀ vs H2, Ex H1 H2 → Pl K ps vs H2 → Q vs H2) → ta σ H1 Q
theorem ep_nil : EvP K tNil σ H [] := fun H1 e Q q => q [] H1 (Ex.refl H1) ⟨[], rfl, rfl, fun i a p h => by simp at h⟩
theorem ep_cons {p : Z2} {ps : List Z2} (h : EvU te σ H (vz p)) (hr : EvP K tr σ H ps) : EvP K (tCons te tr) σ H (p :: ps) := fun H1 e Q q =>
  h H1 e _ fun t H2 ht e2 h2 => hr H2 (e.trans e2) _ fun vs H3 e3 ⟨ts, z1, z2, z3⟩ => q _ H3 (e2.trans e3) ⟨t :: ts, by rw [z1]; rfl, by simp [z2], fun i b r x y => by
    cases i with
    | zero =>
      have := Option.some.inj x
      subst this
      have := Option.some.inj y
      subst this
      exact (P2.of h2).mono e3
    | succ i => exact z3 i b r (by simpa using x) (by simpa using y)⟩
/-- what evaluates to a new list of points -/
def EvN (K : PySem.W.Frag) (te : TE) (σ : L2.St) (H : Hp) (ps : List Z2) : Prop := ∀ H1, Ex H H1 → ∀ Q : VK, (∀ p H2, H1 p = none → Ex H1 H2 → NPt K H2 p ps → Q (.ref p) H2) → te σ H1 Q
theorem en_lst {ps : List Z2} (h : EvP K tr σ H ps) (hl : ps.length ≤ 100000) : EvN K (tLst tr) σ H ps := fun H1 e Q q =>
  h H1 e _ fun vs H2 e2 ⟨ts, z1, z2, z3⟩ => ⟨by rw [z1, List.length_map, z2]; exact sz_of hl, fun p hp => q p _ (fresh_back e2 hp) (e2.trans (Ex.new hp)) ⟨ts, by rw [upd_same, z1], z2, fun i a r x y => (z3 i a r x y).mono (Ex.new hp)⟩⟩
/-- a loop over a new list of points -/
theorem x_forN {ps : List Z2} {tl : TE} (h : EvN K tl σ H ps) (Pv : Addr → Hp → Nat → L2.St → Hp → Prop) (h0 : ∀ t H1, H t = none → Ex H H1 → NPt K H1 t ps → Pv t H1 0 σ H1) (hl : ∀ t H1 i σ' H', Pv t H1 i σ' H' → Ex H1 H')
    (hs : ∀ t H1 i q p σ' H', ps[i]? = some p → P2 K H' q p → Pv t H1 i σ' H' → g (.ref q) σ' H' fun σ2 H2 => tu { D with nx := Pv t H1 (i + 1), ct := Pv t H1 (i + 1), bk := D.nx } σ2 H2) (hd : ∀ t H1 σ' H', Pv t H1 ps.length σ' H' → D.nx σ' H') : tFor (iList K tl) g tu D σ H :=
  h H (Ex.refl H) _ fun t H1 ht e hn => by
    obtain ⟨ts, z1, z2, z3⟩ := id hn
    have zl : (ts.map V.ref).length = ps.length := by rw [List.length_map, z2]
    refine ⟨t, rfl, ⟨_, sq_of z1⟩, for_list (xs := ts.map V.ref) (Pv t H1) (h0 t H1 ht e hn) (fun i σ' H' _ q => sq_of (hl t H1 i σ' H' q _ _ z1)) (fun i x σ' H' hi q => ?_) (fun σ' H' q => hd t H1 σ' H' (by rw [← zl]; exact q))⟩
    have lt : i < ts.length := by
      have := (List.getElem?_eq_some_iff.mp hi).1
      rwa [List.length_map] at this
    rw [List.getElem?_map, List.getElem?_eq_getElem lt] at hi
    have hi := Option.some.inj hi
    subst hi
    have hp : ps[i]? = some (ps[i]'(by omega)) := List.getElem?_eq_getElem (by omega)
    exact hs t H1 i _ _ σ' H' hp ((z3 i _ _ (List.getElem?_eq_getElem lt) hp).mono (hl t H1 i σ' H' q)) q
end
section
variable {P : Program} {w : World} {K : PySem.W.Frag} {mg : Str → Option Value} {base : Heap}
theorem rowE_edge (S : GlaPlan.Plan) (k : Nat) : rowE S k S.pts.length = (GlaPlan.edgePts S (onE S k)).map fun t => ((t : Nat) : Int) := rfl
def corners (S : GlaPlan.Plan) : List Z2 := [(0, 0), ((S.w : Int), 0), (0, (S.h : Int)), ((S.w : Int), (S.h : Int))]
theorem pt_in (S : GlaPlan.Plan) (x y : Nat) : (((x : Int), (y : Int)) ∈ S.pts.map ptZ) ↔ S.pts.contains ⟨x, y⟩ = true := by
  rw [List.contains_iff_mem, List.mem_map]
  constructor
  · rintro ⟨p, hp, e⟩
    unfold ptZ at e
    have e1 := congrArg Prod.fst e
    have e2 := congrArg Prod.snd e
    dsimp only at e1 e2
    have h1 : p.x = x := by omega
    have h2 : p.y = y := by omega
    have : p = ⟨x, y⟩ := by
      cases p
      simp_all
    rw [← this]
    exact hp
  · intro h
    exact ⟨_, h, rfl⟩
theorem frameOk_iff (S : GlaPlan.Plan) : GlaPlan.frameOk S = true ↔ (∀ p ∈ corners S, p ∈ S.pts.map ptZ) ∧ ∀ k, k < 4 → GlaPlan.chained S (GlaPlan.edgePts S (onE S k)) = true := by
  have c0 := pt_in S 0 0
  have c1 := pt_in S S.w 0
  have c2 := pt_in S 0 S.h
  have c3 := pt_in S S.w S.h
  have n0 : (((0 : Nat) : Int)) = 0 := rfl
  rw [n0] at c0 c1 c2
  have o0 : onE S 0 = fun (p : GlaPlan.Pt) => p.x == 0 := rfl
  have o1 : onE S 1 = fun (p : GlaPlan.Pt) => p.x == S.w := rfl
  have o2 : onE S 2 = fun (p : GlaPlan.Pt) => p.y == 0 := rfl
  have o3 : onE S 3 = fun (p : GlaPlan.Pt) => p.y == S.h := rfl
  unfold GlaPlan.frameOk
  simp only [Bool.and_eq_true]
  constructor
  · rintro ⟨h1, h2, h3, h4, h5, h6, h7, h8⟩
    refine ⟨fun p hp => ?_, fun k hk => ?_⟩
    · unfold corners at hp
      simp only [List.mem_cons, List.not_mem_nil, or_false] at hp
      rcases hp with rfl | rfl | rfl | rfl
      · exact c0.mpr h1
      · exact c1.mpr h2
      · exact c2.mpr h3
      · exact c3.mpr h4
    · match k, hk with
      | 0, _ => rw [o0]; exact h7
      | 1, _ => rw [o1]; exact h8
      | 2, _ => rw [o2]; exact h5
      | 3, _ => rw [o3]; exact h6
  · rintro ⟨h, g⟩
    have h1 := h (0, 0) (by simp [corners])
    have h2 := h ((S.w : Int), 0) (by simp [corners])
    have h3 := h (0, (S.h : Int)) (by simp [corners])
    have h4 := h ((S.w : Int), (S.h : Int)) (by simp [corners])
    have g0 := g 0 (by decide)
    have g1 := g 1 (by decide)
    have g2 := g 2 (by decide)
    have g3 := g 3 (by decide)
    rw [o0] at g0
    rw [o1] at g1
    rw [o2] at g2
    rw [o3] at g3
    exact ⟨c0.mp h1, c1.mp h2, c2.mp h3, c3.mp h4, g2, g3, g0, g1⟩
/-- a row's steps, one by one -/
theorem chained_iff (S : GlaPlan.Plan) (l : List Nat) (asc : l.Pairwise (· < ·)) : GlaPlan.chained S l = true ↔ ∀ k x y, l[k]? = some x → l[k + 1]? = some y → (x, y) ∈ S.lines := by
  unfold GlaPlan.chained
  rw [List.all_eq_true]
  have jn : ∀ x y, x < y → (S.joined x y = true ↔ (x, y) ∈ S.lines) := by
    intro x y h
    unfold GlaPlan.Plan.joined
    rw [Nat.min_eq_left (by omega), Nat.max_eq_right (by omega), List.contains_iff_mem]
  have lt : ∀ (k x y : Nat), l[k]? = some x → l[k + 1]? = some y → x < y := by
    intro k x y hx hy
    obtain ⟨a1, a2⟩ := List.getElem?_eq_some_iff.mp hx
    obtain ⟨b1, b2⟩ := List.getElem?_eq_some_iff.mp hy
    have := (List.pairwise_iff_getElem.mp asc) k (k + 1) a1 b1 (by omega)
    rw [a2, b2] at this
    exact this
  constructor
  · intro h k x y hx hy
    have hz : (l.zip (l.drop 1))[k]? = some (x, y) := by
      rw [List.getElem?_zip_eq_some]
      exact ⟨hx, by rw [List.getElem?_drop, Nat.add_comm]; exact hy⟩
    exact (jn x y (lt k x y hx hy)).mp (h (x, y) (List.mem_of_getElem? hz))
  · rintro h ⟨x, y⟩ hxy
    obtain ⟨k, hk⟩ := List.getElem?_of_mem hxy
    rw [List.getElem?_zip_eq_some, List.getElem?_drop, Nat.add_comm] at hk
    exact (jn x y (lt k x y hk.1 hk.2)).mpr (h k x y hk.1 hk.2)
theorem ln_in (S : GlaPlan.Plan) (x y : Nat) : (((x : Int), (y : Int)) ∈ S.lines.map lnZ) ↔ (x, y) ∈ S.lines := by
  rw [List.mem_map]
  constructor
  · rintro ⟨⟨u, v⟩, hp, e⟩
    unfold lnZ at e
    have e1 : ((u : Nat) : Int) = (x : Int) := congrArg Prod.fst e
    have e2 : ((v : Nat) : Int) = (y : Int) := congrArg Prod.snd e
    have : (u, v) = (x, y) := by
      have : u = x := by omega
      have : v = y := by omega
      simp [*]
    rw [← this]
    exact hp
  · intro h
    exact ⟨_, h, rfl⟩
theorem ev_inU2 {σ : L2.St} {H : Hp} {ta tb : TE} {l : Addr} {p : Z2} {ps : List Z2} (ha : EvU ta σ H (vz p)) (hb : Ev tb σ H (.ref l)) (hl : PtL K H l ps) : Ev (tOp (rInD K) ta tb) σ H (.bl (decide (p ∈ ps))) := fun H1 e Q q =>
  ha H1 e _ fun t H2 _ e2 h2 => hb H2 (e.trans e2) _ fun H3 e3 => rv_inPts (P2.of (e3 _ _ h2)) (hl.mono ((e.trans e2).trans e3)) H3 (Ex.refl H3) Q fun H4 e4 => q H4 ((e2.trans e3).trans e4)
theorem edge_pos (S : GlaPlan.Plan) (hc : ∀ p ∈ corners S, p ∈ S.pts.map ptZ) : ∀ i, i < 4 → 0 < (GlaPlan.edgePts S (onE S i)).length := by
  have pick : ∀ (i x y : Nat), ((x : Int), (y : Int)) ∈ corners S → onE S i ⟨x, y⟩ = true → 0 < (GlaPlan.edgePts S (onE S i)).length := by
    intro i x y h1 h2
    obtain ⟨j, lj, pj⟩ := pt_of_mem ((pt_in S x y).mp (hc _ h1))
    exact List.length_pos_of_mem (edge_mem.mpr ⟨lj, by rw [pj]; exact h2⟩)
  intro i hi
  match i, hi with
  | 0, _ => exact pick 0 0 0 (by simp [corners]) (by simp [onE])
  | 1, _ => exact pick 1 S.w 0 (by simp [corners]) (by simp [onE])
  | 2, _ => exact pick 2 0 0 (by simp [corners]) (by simp [onE])
  | 3, _ => exact pick 3 0 S.h (by simp [corners]) (by simp [onE])
theorem rows_at (S : GlaPlan.Plan) : ∀ i, i < 4 → [rowE S 0 S.pts.length, rowE S 1 S.pts.length, rowE S 2 S.pts.length, rowE S 3 S.pts.length][i]? = some (rowE S i S.pts.length)
  | 0, _ => rfl
  | 1, _ => rfl
  | 2, _ => rfl
  | 3, _ => rfl
theorem ok_check_frame (T : Txt K mg) : FnOk P w K mg base (L2.CX P w) 4 T.check_frame.f T.check_frame.fd ["drawing"] (spChk K T.Drawing.C T.x_NoCartoon.C tru fun S _ => f6 S) := by
  refine T.check_frame.F.okX sc_check_frame (fun vs H Q E h => ?_) (fun cdv A outer s H vs Q E hr h => ?_)
  · obtain ⟨a, sz, S, rfl, _⟩ := h
    rfl
  · refine ⟨_, (pss_cons (ps_for (passes_of rfl) rfl (pi_list (pe_lst (pa_cons (pe_tup (pa_cons pe_int (pa_cons pe_int pa_nil))) (pa_cons (pe_tup (pa_cons (pe_fld (pv 0) rfl) (pa_cons pe_int pa_nil))) (pa_cons (pe_tup (pa_cons pe_int (pa_cons (pe_fld (pv 0) rfl) pa_nil))) (pa_cons (pe_tup (pa_cons (pe_fld (pv 0) rfl) (pa_cons (pe_fld (pv 0) rfl) pa_nil))) pa_nil)))))) (pg_name (i := 1) sc_check_frame.nd rfl (Or.inl rfl)) (pss_one (ps_expr (pe_call (ok_ask T) (hr.mono (by decide)) rfl T.ask.g T.ask.F.kp T.ask.b .nil (passes_call (takes_of rfl rfl rfl rfl) (fun _ _ _ _ h => h)) (pa_cons (pe_cmpR (op_inD (hu65 hr)) (pv 1) (pe_fld (pv 0) rfl) rfl) (pa_cons pe_int (pa_cons (pe_glob (v := .int (20)) rfl T.c_HEAD.choose_spec ⟨_, rfl⟩) pa_nil)))))))
    (pss_one (ps_for (passes_of rfl) rfl (pi_list (pe_call (ok_edges_of T) (hr.mono (by decide)) rfl T.edges_of.g T.edges_of.F.kp T.edges_of.b .nil pass0 (pa_cons (pv 0) pa_nil))) (pg_name (i := 2) sc_check_frame.nd rfl (Or.inl rfl)) (pss_one (ps_for (passes_of rfl) rfl (pi_range1 rfl T.n_range (pa_cons (pe_op op_sub (pe_callB call_len_seq (by rfl) T.n_len PySem.boot_len (pa_cons (pv 2) pa_nil)) pe_int) pa_nil)) (pg_name (i := 3) sc_check_frame.nd rfl (Or.inl rfl)) (pss_one (ps_expr (pe_call (ok_ask T) (hr.mono (by decide)) rfl T.ask.g T.ask.F.kp T.ask.b .nil (passes_call (takes_of rfl rfl rfl rfl) (fun _ _ _ _ h => h)) (pa_cons (pe_cmpR (op_inD (hu65 hr)) (pe_tup (pa_cons (pe_ix ix_list (pv 2) (pv 3) (fun _ _ => rfl)) (pa_cons (pe_ix ix_list (pv 2) (pe_op op_add (pv 3) pe_int) (fun _ _ => rfl)) pa_nil))) (pe_fld (pv 0) rfl) rfl) (pa_cons pe_int (pa_cons (pe_glob (v := .int (20)) rfl T.c_HEAD.choose_spec ⟨_, rfl⟩) pa_nil))))))))))), ?_⟩
    obtain ⟨a, sz, S, rfl, hD, hpre, ⟨kE, kO⟩⟩ := h
    have hD0 := hD
    obtain ⟨dx, c, l1, l2, l3, D⟩ := hD
    have cl := T.Drawing.cl
    have kE6 : GlaPlan.frameOk S = false → ExcP T.x_NoCartoon.C (noF 6 20) H E := fun h => kE ⟨6, 20⟩ (by show f6 S = _; unfold f6; rw [if_pos h]; rfl)
    have fw : ∀ {H'}, Ex H H' → Ev (tFld K (tVar 0) "width") [some (.ref a), none, none, none] H' (.int (S.w : Int)) := fun e => ev_fld (ev_var rfl) (e _ _ D.ob) cl T.Drawing.na_width dF_width
    have fh : ∀ {H'}, Ex H H' → Ev (tFld K (tVar 0) "height") [some (.ref a), none, none, none] H' (.int (S.h : Int)) := fun e => ev_fld (ev_var rfl) (e _ _ D.ob) cl T.Drawing.na_height dF_height
    have two : ∀ x y : V, [x, y].length ≤ 100000 := fun _ _ => by show 2 ≤ 100000; decide
    refine x_forN (ps := corners S) (D := { nx := _, rt := _, bk := _, ct := _ }) (en_lst (ep_cons (eu_tup (ea_cons ev_c (ea_cons ev_c ea_nil)) (two _ _)) (ep_cons (eu_tup (ea_cons (fw (Ex.refl H)) (ea_cons ev_c ea_nil)) (two _ _)) (ep_cons (eu_tup (ea_cons ev_c (ea_cons (fh (Ex.refl H)) ea_nil)) (two _ _)) (ep_cons (eu_tup (ea_cons (fw (Ex.refl H)) (ea_cons (fh (Ex.refl H)) ea_nil)) (two _ _)) ep_nil)))) (by show 4 ≤ 100000; decide))
      (fun t H1 i σ' H' => Ex H H1 ∧ Ex H1 H' ∧ (∀ j p, j < i → (corners S)[j]? = some p → p ∈ S.pts.map ptZ) ∧ ∃ v1, σ' = [some (.ref a), v1, none, none]) (fun t H1 ht e hn => ⟨e, Ex.refl _, fun j p hj => by omega, none, rfl⟩) (fun t H1 i σ' H' q => q.2.1) ?_ ?_
    · rintro t H1 i q p σ' H' hi hq ⟨e0, e1, hb, v1, rfl⟩
      have e := e0.trans e1
      refine x_ask (ea_cons (ev_op (ev_var rfl) (ev_fld (ev_var rfl) (e _ _ D.ob) cl T.Drawing.na_points dF_points) (rv_inPts hq (D.ps.mono e))) (ea_cons ev_c (ea_cons ev_c ea_nil))) (fun tb => ?_) (fun tb H2 e2 => ⟨e0, e1.trans e2, fun j p' hj hp => ?_, _, rfl⟩)
      · refine (kE6 ?_).mono e
        rw [Bool.eq_false_iff, Ne, frameOk_iff]
        rintro ⟨h, _⟩
        exact of_decide_eq_false tb (h p (List.mem_of_getElem? hi))
      · by_cases c : j < i
        · exact hb j p' c hp
        · have : j = i := by omega
          subst this
          rw [hi] at hp
          have := Option.some.inj hp
          subst this
          exact of_decide_eq_true tb
    · rintro t H1 σ' H' ⟨e0, e1, hb, v1, rfl⟩
      have e := e0.trans e1
      have hc : ∀ p ∈ corners S, p ∈ S.pts.map ptZ := fun p hp => by
        obtain ⟨j, hj⟩ := List.getElem?_of_mem hp
        exact hb j p (List.getElem?_eq_some_iff.mp hj).1 hj
      -- the edges
      refine ⟨_, rfl, a, sz, S, rfl, hD0.mono e, hpre, fun p H2 np e2 hL => ?_⟩
      obtain ⟨es, q1, q2, q3⟩ := hL
      have e2 := e.trans e2
      refine ⟨p, rfl, ⟨_, q1⟩, for_list (xs := es.map V.ref) (fun i σ' H' => Ex H2 H' ∧ (∀ j, j < i → GlaPlan.chained S (GlaPlan.edgePts S (onE S j)) = true) ∧ ∃ v1 v2 v3, σ' = [some (.ref a), v1, v2, v3]) ⟨Ex.refl _, fun j hj => by omega, _, _, _, rfl⟩ (fun i σ' H' _ q => ex_l q.1 q1) ?_ ?_⟩
      · rintro i x σ' H3 hi ⟨e3, hb3, v1, v2, v3, rfl⟩
        have lt : i < es.length := by
          have := (List.getElem?_eq_some_iff.mp hi).1
          rwa [List.length_map] at this
        have l4 : es.length = 4 := q2
        rw [List.getElem?_map, List.getElem?_eq_getElem lt] at hi
        have hi := Option.some.inj hi
        subst hi
        have hrow : SqL K H2 es[i] ((rowE S i S.pts.length).map V.int) := by
          exact q3 i es[i] (rowE S i S.pts.length) (List.getElem?_eq_getElem lt) (rows_at S i (by omega))
        generalize es[i] = eA at hrow
        have asc := edge_asc S (onE S i)
        have rl : ((rowE S i S.pts.length).map V.int).length = (GlaPlan.edgePts S (onE S i)).length := by rw [rowE_edge, List.length_map, List.length_map]
        have ne := edge_pos S hc i (by omega)
        have small : (GlaPlan.edgePts S (onE S i)).length ≤ 4096 := by
          have := rowE_len S i S.pts.length
          rw [rowE_edge, List.length_map] at this
          have := hpre.1
          omega
        have itm : ∀ (k x : Nat), (GlaPlan.edgePts S (onE S i))[k]? = some x → ((rowE S i S.pts.length).map V.int)[k]? = some (V.int ((x : Nat) : Int)) := by
          intro k x hx
          rw [rowE_edge, List.getElem?_map, List.getElem?_map, hx]
          rfl
        refine s_forR1 (n := (((rowE S i S.pts.length).map V.int).length : Int) - 1) (ea_cons (ev_op (ev_lenL (ev_var rfl) (ex_l e3 hrow)) ev_c rv_I0) ea_nil) (by rw [rl]; omega)
          (fun k σ' H' => Ex H2 H' ∧ (∀ j x y, j < k → (GlaPlan.edgePts S (onE S i))[j]? = some x → (GlaPlan.edgePts S (onE S i))[j + 1]? = some y → (x, y) ∈ S.lines) ∧ ∃ v1 v3, σ' = [some (.ref a), v1, some (.ref eA), v3]) (fun H4 e4 => ⟨e3.trans e4, fun j x y hj => by omega, _, _, rfl⟩) ?_ ?_
        · rintro k σ' H4 hk ⟨e4, hb4, v1, v3, rfl⟩
          rw [rl] at hk
          have k1 : k + 1 < (GlaPlan.edgePts S (onE S i)).length := by omega
          have x1 : (GlaPlan.edgePts S (onE S i))[k]? = some ((GlaPlan.edgePts S (onE S i))[k]'(by omega)) := List.getElem?_eq_getElem (by omega)
          have x2 : (GlaPlan.edgePts S (onE S i))[k + 1]? = some ((GlaPlan.edgePts S (onE S i))[k + 1]'k1) := List.getElem?_eq_getElem k1
          generalize (GlaPlan.edgePts S (onE S i))[k]'(by omega) = u at x1
          generalize (GlaPlan.edgePts S (onE S i))[k + 1]'k1 = v at x2
          have hr4 := ex_l e4 hrow
          have e24 := e2.trans e4
          refine x_ask (b := decide ((((u : Nat) : Int), ((v : Nat) : Int)) ∈ S.lines.map lnZ)) (ea_cons (ev_inU2 (eu_tup (ea_cons (ev_op (ev_var rfl) (ev_var rfl) (rv_ixL hr4 (at_of rfl (itm k u x1)))) (ea_cons (ev_op (ev_var rfl) (ev_op (ev_var rfl) ev_c rv_I0) (rv_ixL hr4 (at_of (j := k + 1) (by omega) (itm (k + 1) v x2)))) ea_nil)) (two _ _))
            (ev_fld (ev_var rfl) (e24 _ _ D.ob) cl T.Drawing.na_lines dF_lines) (D.ls.mono e24)) (ea_cons ev_c (ea_cons ev_c ea_nil))) (fun tb => ?_) (fun tb H5 e5 => ⟨e4.trans e5, fun j x y hj hx hy => ?_, _, _, rfl⟩)
          · refine (kE6 ?_).mono e24
            rw [Bool.eq_false_iff, Ne, frameOk_iff]
            rintro ⟨_, h⟩
            have := (chained_iff S _ asc).mp (h i (by omega)) k u v x1 x2
            exact of_decide_eq_false tb ((ln_in S u v).mpr this)
          · by_cases c : j < k
            · exact hb4 j x y c hx hy
            · have : j = k := by omega
              subst this
              rw [x1] at hx
              rw [x2] at hy
              have hx := Option.some.inj hx
              have hy := Option.some.inj hy
              subst hx hy
              exact (ln_in S _ _).mp (of_decide_eq_true tb)
        · rintro σ' H4 ⟨e4, hb4, v1, v3, rfl⟩
          refine ⟨e4, fun j hj => ?_, _, _, _, rfl⟩
          by_cases c : j < i
          · exact hb3 j c
          · have : j = i := by omega
            subst this
            rw [chained_iff S _ asc]
            intro k x y hx hy
            refine hb4 k x y ?_ hx hy
            have := (List.getElem?_eq_some_iff.mp hy).1
            rw [rl]
            omega
      · rintro σ' H3 ⟨e3, hb3, v1, v2, v3, rfl⟩
        have l4 : (es.map V.ref).length = 4 := by rw [List.length_map]; exact q2
        rw [l4] at hb3
        refine kO ?_ H3 (e2.trans e3)
        show f6 S = none
        unfold f6
        rw [if_neg]
        rw [Bool.not_eq_false, frameOk_iff]
        exact ⟨hc, hb3⟩
end
end Lead
namespace Lead
open PySem PySem.Spec PyProof.Rows L2 Evl LeadT
/-! ### lines that touch -/
theorem tn_pt (p q r : GlaPlan.Pt) : tnZ (ptZ p) (ptZ q) (ptZ r) = GlaPlan.turn p q r := rfl
theorem btw_nat (a b c : Nat) : btw (a : Int) (b : Int) (c : Int) = GlaPlan.between a b c := by
  unfold btw GlaPlan.between
  rw [Bool.eq_iff_iff]
  simp only [Bool.and_eq_true, decide_eq_true_eq]
  split <;> split <;> omega
theorem isOn_pt (p q r : GlaPlan.Pt) : isOnZ (ptZ p) (ptZ q) (ptZ r) = GlaPlan.isOn p q r := by
  unfold isOnZ GlaPlan.isOn
  rw [tn_pt]
  show (_ && (btw (p.x : Int) q.x r.x && btw (p.y : Int) q.y r.y)) = _
  rw [btw_nat, btw_nat]
  congr 1
theorem apart_mul (a b : Int) : apartZ a b = decide (a * b < 0) := by
  unfold apartZ
  rw [Bool.eq_iff_iff]
  simp only [Bool.or_eq_true, Bool.and_eq_true, decide_eq_true_eq]
  constructor
  · intro h
    exact Good.neg_mul h
  · intro h
    rcases Int.lt_trichotomy a 0 with q | q | q
    · refine .inr ⟨q, ?_⟩
      false_or_by_contra
      have := Int.mul_nonneg (a := -a) (b := -b) (by omega) (by omega)
      grind
    · subst q
      simp at h
    · refine .inl ⟨q, ?_⟩
      false_or_by_contra
      have := Int.mul_nonneg (a := a) (b := b) (by omega) (by omega)
      omega
theorem cross_pt (p q r s : GlaPlan.Pt) : crossZ (ptZ p) (ptZ q) (ptZ r) (ptZ s) = GlaPlan.crosses p q r s := by
  unfold crossZ GlaPlan.crosses
  rw [apart_mul, apart_mul, tn_pt, tn_pt, tn_pt, tn_pt]
/-- what stands behind the rules 4 and 5 -/
structure Pre5 (S : GlaPlan.Plan) : Prop where
  t : tru S
  w : S.w ≤ 1048575
  h : S.h ≤ 1048575
  r4 : f4 S = none
  r5 : f5 S = none
namespace Pre5
variable {S : GlaPlan.Plan}
theorem box (O : Pre5 S) {i : Nat} (h : i < S.pts.length) : (S.pt i).x ≤ S.w ∧ (S.pt i).y ≤ S.h := by
  have := O.r4
  unfold f4 at this
  rw [Option.map_eq_none_iff] at this
  have := (firstBad_none.mp this).1 i _ (pt_get h)
  simpa using this
theorem sm (O : Pre5 S) {i : Nat} (h : i < S.pts.length) : sml (ptZ (S.pt i)) := by
  have := O.box h
  have := O.w
  have := O.h
  unfold sml ptZ
  dsimp only
  omega
theorem line_lt (O : Pre5 S) {e : Nat × Nat} (he : e ∈ S.lines) : e.1 < e.2 ∧ e.2 < S.pts.length := by
  obtain ⟨i, hi⟩ := List.getElem?_of_mem he
  have := O.r5
  unfold f5 at this
  rw [Option.map_eq_none_iff] at this
  have := (firstBad_none.mp this).1 i _ hi
  simpa using this
end Pre5
section
variable {P : Program} {w : World} {K : PySem.W.Frag} {mg : Str → Option Value} {base : Heap}
theorem rv_neI {H : Hp} {i j : Int} : RV rNe (.int i) (.int j) H (.bl (!decide (i = j))) := fun H1 e Q q => ⟨rfl, by
  have : decide (V.int i = V.int j) = decide (i = j) := by simp
  rw [this]
  exact q H1 (Ex.refl H1)⟩
theorem rv_eqI {H : Hp} {i j : Int} : RV rEq (.int i) (.int j) H (.bl (decide (i = j))) := fun H1 e Q q => ⟨rfl, by
  have : decide (V.int i = V.int j) = decide (i = j) := by simp
  rw [this]
  exact q H1 (Ex.refl H1)⟩
/-- a point of the drawing, by its number -/
theorem ev_dpt {C a dx c l1 l2 l3 : Addr} {H : Hp} {σ : L2.St} {ta tb : TE} {sz : Nat} {S : GlaPlan.Plan} {i : Nat} {iz : Int} (D : DAt K C H a dx c l1 l2 l3 sz S) (cl : Cls K C) (na : NoAttr K C "points") (ha : Ev ta σ H (.ref a)) (hi : Ev tb σ H (.int iz)) (ez : iz = (i : Int)) (lt : i < S.pts.length) :
    ∃ q, P2 K H q (ptZ (S.pt i)) ∧ Ev (tOp (rIxL K) (tFld K ta "points") tb) σ H (.ref q) := ev_pt (ev_fld ha D.ob cl na dF_points) hi ez D.ps (map_at (f := ptZ) (pt_get lt))
def spFree (K : PySem.W.Frag) (C : Addr) : Sp := fun vs H Q _ => ∃ (a : Addr) (sz : Nat) (S : GlaPlan.Plan) (i : Nat) (l : Nat × Nat), vs = [.ref a, .int (i : Int)] ∧ Dw K C H a sz S ∧ Pre5 S ∧ S.lines[i]? = some l ∧ RetV (.bl (!GlaPlan.touches S i l)) H Q
theorem cut_take {α : Type} (xs : List V) (n : Nat) (h : n ≤ xs.length) : cutV xs none (some (n : Int)) = xs.take n := by
  unfold cutV
  have s1 : HT.sIx xs.length 0 none = 0 := rfl
  have s2 : HT.sIx xs.length xs.length (some (n : Int)) = n := by
    unfold HT.sIx
    simp
    split <;> omega
  rw [s1, s2, List.drop_zero, Nat.sub_zero]
theorem ok_is_free (T : Txt K mg) : FnOk P w K mg base CX0 3 T.is_free.f T.is_free.fd ["drawing", "number"] (spFree K T.Drawing.C) := by
  refine T.is_free.F.ok sc_is_free (fun vs H Q E h => ?_) (fun cdv A outer s H vs Q E hr h => ?_)
  · obtain ⟨a, sz, S, i, l, rfl, _⟩ := h
    rfl
  · refine ⟨_, (pss_cons (ps_asg (pe_ix ix_list (pe_fld (pv 0) rfl) (pv 1) (fun _ _ => rfl)) (pg_tup rfl (pgs_cons (pg_name (i := 2) sc_is_free.nd rfl (Or.inl rfl)) (pgs_cons (pg_name (i := 3) sc_is_free.nd rfl (Or.inl rfl)) pgs_nil))))
    (pss_cons (ps_set (i := 4) sc_is_free.nd rfl (.inl rfl) (pe_ix ix_list (pe_fld (pv 0) rfl) (pv 2) (fun _ _ => rfl)))
    (pss_cons (ps_set (i := 5) sc_is_free.nd rfl (.inl rfl) (pe_ix ix_list (pe_fld (pv 0) rfl) (pv 3) (fun _ _ => rfl)))
    (pss_cons (ps_for PassesOwn.never rfl (pi_range1 rfl T.n_range (pa_cons (pe_callB call_len_seq (by rfl) T.n_len PySem.boot_len (pa_cons (pe_fld (pv 0) rfl) pa_nil)) pa_nil)) (pg_name (i := 6) sc_is_free.nd rfl (Or.inl rfl)) (pss_one (ps_if (PW.pt (pw_and (pt_cmpR op_ne (pv 6) (pv 2) (nomark _)) (pw_and (pt_cmpR op_ne (pv 6) (pv 3) (nomark _)) (pw_and1 (pt_val (pe_call (ok_is_on T) (hr.mono (by decide)) rfl T.is_on.g T.is_on.F.kp T.is_on.b .nil pass0 (pa_cons (pv 4) (pa_cons (pv 5) (pa_cons (pe_ix ix_list (pe_fld (pv 0) rfl) (pv 6) (fun _ _ => rfl)) pa_nil))))))))) (pss_one (ps_ret pe_bl)) pss_nil)))
    (pss_cons (ps_for PassesOwn.never rfl (pi_list (pe_slice sl_list (pe_fld (pv 0) rfl) po_none (po_some (pv 1)))) (pg_tup rfl (pgs_cons (pg_name (i := 7) sc_is_free.nd rfl (Or.inl rfl)) (pgs_cons (pg_name (i := 8) sc_is_free.nd rfl (Or.inl rfl)) pgs_nil))) (pss_one (ps_if (pt_val (pe_call (ok_cross T) (hr.mono (by decide)) rfl T.cross.g T.cross.F.kp T.cross.b .nil pass0 (pa_cons (pv 4) (pa_cons (pv 5) (pa_cons (pe_ix ix_list (pe_fld (pv 0) rfl) (pv 7) (fun _ _ => rfl)) (pa_cons (pe_ix ix_list (pe_fld (pv 0) rfl) (pv 8) (fun _ _ => rfl)) pa_nil)))))) (pss_one (ps_ret pe_bl)) pss_nil)))
    (pss_one (ps_ret pe_bl))))))), ?_⟩
    obtain ⟨a, sz, S, i, l, rfl, hD, hP, hl, k⟩ := h
    obtain ⟨dx, c, l1, l2, l3, D⟩ := hD
    have cl := T.Drawing.cl
    have lt := hP.line_lt (List.mem_of_getElem? hl)
    have ilt := (List.getElem?_eq_some_iff.mp hl).1
    obtain ⟨q0, hq0, ev0⟩ := ev_pt (σ := [some (.ref a), some (.int (i : Int)), none, none, none, none, none, none, none]) (ta := tFld K (tVar 0) "lines") (tb := tVar 1) (ev_fld (ev_var rfl) D.ob cl T.Drawing.na_lines dF_lines) (ev_var rfl) rfl D.ls (map_at (f := lnZ) hl)
    refine q_unpack ev0 hq0 fun H1 e1 => ?_
    obtain ⟨p, hp, evp⟩ := ev_dpt (σ := [some (.ref a), some (.int (i : Int)), some (.int (l.1 : Int)), some (.int (l.2 : Int)), none, none, none, none, none]) (ta := tVar 0) (tb := tVar 2) (D.mono e1) cl T.Drawing.na_points (ev_var rfl) (ev_var rfl) rfl (i := l.1) (by omega)
    refine q_asg evp fun H2 e2 => ?_
    obtain ⟨q, hq, evq⟩ := ev_dpt (σ := [some (.ref a), some (.int (i : Int)), some (.int (l.1 : Int)), some (.int (l.2 : Int)), some (.ref p), none, none, none, none]) (ta := tVar 0) (tb := tVar 3) (D.mono (e1.trans e2)) cl T.Drawing.na_points (ev_var rfl) (ev_var rfl) rfl (i := l.2) lt.2
    refine q_asg evq fun H3 e3 => ?_
    have hp := (hp.mono e2).mono e3
    have hq := hq.mono e3
    have e := (e1.trans e2).trans e3
    have sp := hP.sm (i := l.1) (by omega)
    have sq := hP.sm (i := l.2) lt.2
    have D3 := D.mono e
    have k3 : RetV (.bl (!GlaPlan.touches S i l)) H3 Q := fun H' e' => k H' (e.trans e')
    clear ev0 evp evq hq0 e1 e2 e3 k
    obtain ⟨as, q1, q2, q3⟩ := id D3.ps
    rw [List.length_map] at q2
    refine q_forR1 (n := ((as.map V.ref).length : Int)) (ea_cons (ev_lenL (ev_fld (ev_var rfl) D3.ob cl T.Drawing.na_points dF_points) q1) ea_nil) (by rw [List.length_map, q2]; have := hP.t.1; omega)
      (fun m σ' H' => Ex H3 H' ∧ (∀ j, j < m → (j != l.1 && (j != l.2 && GlaPlan.isOn (S.pt l.1) (S.pt l.2) (S.pt j))) = false) ∧ ∃ v1 v2 v3, σ' = [some (.ref a), some (.int (i : Int)), some (.int (l.1 : Int)), some (.int (l.2 : Int)), some (.ref p), some (.ref q), v1, v2, v3]) (fun H4 e4 => ⟨e4, fun j hj => by omega, _, _, _, rfl⟩) ?_ ?_
    · rintro m σ' H' hm ⟨e4, hb, v1, v2, v3, rfl⟩
      have lm : m < S.pts.length := by rw [List.length_map, q2] at hm; omega
      obtain ⟨r, hr, evr⟩ := ev_dpt (σ := [some (.ref a), some (.int (i : Int)), some (.int (l.1 : Int)), some (.int (l.2 : Int)), some (.ref p), some (.ref q), some (.int ((m : Nat) : Int)), v2, v3]) (ta := tVar 0) (tb := tVar 6) (D3.mono e4) cl T.Drawing.na_points (ev_var rfl) (ev_var rfl) rfl lm
      have val : (!decide (((m : Nat) : Int) = (l.1 : Int)) && (!decide (((m : Nat) : Int) = (l.2 : Int)) && isOnZ (ptZ (S.pt l.1)) (ptZ (S.pt l.2)) (ptZ (S.pt m)))) = (m != l.1 && (m != l.2 && GlaPlan.isOn (S.pt l.1) (S.pt l.2) (S.pt m))) := by
        rw [isOn_pt]
        have a1 : (!decide (((m : Nat) : Int) = (l.1 : Int))) = (m != l.1) := by
          rw [Bool.eq_iff_iff]
          simp
          omega
        have a2 : (!decide (((m : Nat) : Int) = (l.2 : Int))) = (m != l.2) := by
          rw [Bool.eq_iff_iff]
          simp
          omega
        rw [a1, a2]
      refine s_when (et_is (et_and (et_test (ev_op (ev_var rfl) (ev_var rfl) rv_neI)) fun _ => (et_and (et_test (ev_op (ev_var rfl) (ev_var rfl) rv_neI)) fun _ => et_B (ev_call (ea_cons (ev_var rfl) (ea_cons (ev_var rfl) (ea_cons evr ea_nil))) (spv_is_on (hp.mono e4) (hq.mono e4) hr ⟨sp, sq, hP.sm lm⟩)))) val) (fun tb H5 e5 => ?_) (fun tb H5 e5 => ⟨e4.trans e5, fun j hj => ?_, _, _, _, rfl⟩)
      · refine s_ret ev_c fun H6 e6 => ?_
        have : GlaPlan.touches S i l = true := by
          unfold GlaPlan.touches
          rw [Bool.or_eq_true]
          exact .inl (List.any_eq_true.mpr ⟨m, List.mem_range.mpr lm, tb⟩)
        rw [this] at k3
        exact k3 H6 ((e4.trans e5).trans e6)
      · by_cases c : j < m
        · exact hb j c
        · have : j = m := by omega
          subst this
          exact tb
    · rintro σ' H4 ⟨e4, hb, v1, v2, v3, rfl⟩
      have hb : ((List.range S.pts.length).any fun (k : Nat) => k != l.1 && (k != l.2 && GlaPlan.isOn (S.pt l.1) (S.pt l.2) (S.pt k))) = false := by
        rw [List.any_eq_false]
        intro j hj
        rw [hb j (by rw [List.length_map, q2]; have := List.mem_range.mp hj; omega)]
        simp
      have D4 := D3.mono e4
      obtain ⟨ls, r1, r2, r3⟩ := id D4.ls
      rw [List.length_map] at r2
      have zl : (ls.map V.ref).length = S.lines.length := by rw [List.length_map, r2]
      have cut := cut_take (α := Nat) (ls.map V.ref) i (by omega)
      refine q_forNL (xs := (ls.map V.ref).take i) (by
        have := el_sl (H := H4) (σ := [some (.ref a), some (.int (i : Int)), some (.int (l.1 : Int)), some (.int (l.2 : Int)), some (.ref p), some (.ref q), v1, v2, v3]) (ev_fld (ev_var (i := 0) rfl) D4.ob cl T.Drawing.na_lines dF_lines) eo_none (eo_some (ev_var (i := 1) rfl)) r1
        rw [cut] at this
        exact this)
        (fun t m σ' H' => Ex H4 (fun b => if b = t then H4 b else H' b) ∧ H' t = some (.lst ((ls.map V.ref).take i)) ∧ Ex H4 H' ∧ (∀ j y, j < m → S.lines[j]? = some y → GlaPlan.crosses (S.pt l.1) (S.pt l.2) (S.pt y.1) (S.pt y.2) = false) ∧ ∃ v1 v2 v3, σ' = [some (.ref a), some (.int (i : Int)), some (.int (l.1 : Int)), some (.int (l.2 : Int)), some (.ref p), some (.ref q), v1, v2, v3])
        (fun t H5 ht e5 h5 => ⟨fun b o hb => by dsimp only; split <;> first | exact hb | exact e5 _ _ hb, h5, e5, fun j y hj => by omega, _, _, _, rfl⟩) (fun t m σ' H' _ q => sq_of q.2.1) ?_ ?_
      · rintro t m x σ' H' hm ⟨_, ht, e5, hc, v1, v2, v3, rfl⟩
        have lm : m < i := by
          have := (List.getElem?_eq_some_iff.mp hm).1
          rw [List.length_take] at this
          omega
        have hm0 : S.lines[m]? = some (S.lines[m]'(by omega)) := List.getElem?_eq_getElem (by omega)
        generalize S.lines[m]'(by omega) = y at hm0
        obtain ⟨u, hu, huz⟩ := PtL.at_ (l := l2) (by rw [List.length_map]; exact r2) r3 (map_at (f := lnZ) hm0)
        rw [List.getElem?_take, if_pos lm, hu] at hm
        have hm := Option.some.inj hm
        subst hm
        have yl := hP.line_lt (List.mem_of_getElem? hm0)
        refine ⟨u, _, rfl, huz.mono e5, rfl, _, _, rfl, _, _, rfl, rfl, ?_⟩
        have D5 := D4.mono e5
        obtain ⟨r, hr, evr⟩ := ev_dpt (σ := [some (.ref a), some (.int (i : Int)), some (.int (l.1 : Int)), some (.int (l.2 : Int)), some (.ref p), some (.ref q), v1, some (.int (y.1 : Int)), some (.int (y.2 : Int))]) (ta := tVar 0) (tb := tVar 7) D5 cl T.Drawing.na_points (ev_var rfl) (ev_var rfl) rfl (i := y.1) (by omega)
        obtain ⟨s', hs, evs⟩ := ev_dpt (σ := [some (.ref a), some (.int (i : Int)), some (.int (l.1 : Int)), some (.int (l.2 : Int)), some (.ref p), some (.ref q), v1, some (.int (y.1 : Int)), some (.int (y.2 : Int))]) (ta := tVar 0) (tb := tVar 8) D5 cl T.Drawing.na_points (ev_var rfl) (ev_var rfl) rfl (i := y.2) yl.2
        have ee := e4.trans e5
        refine s_when (et_is (et_B (ev_call (ea_cons (ev_var rfl) (ea_cons (ev_var rfl) (ea_cons evr (ea_cons evs ea_nil)))) (spv_cross (hp.mono ee) (hq.mono ee) hr hs ⟨sp, sq, hP.sm (by omega), hP.sm yl.2⟩))) (cross_pt _ _ _ _)) (fun tb H6 e6 => ?_) (fun tb H6 e6 => ⟨fun b o hb => by dsimp only; split <;> first | exact hb | exact (e5.trans e6) _ _ hb, e6 _ _ ht, e5.trans e6, fun j y' hj hy => ?_, _, _, _, rfl⟩)
        · refine s_ret ev_c fun H7 e7 => ?_
          have : GlaPlan.touches S i l = true := by
            unfold GlaPlan.touches
            rw [Bool.or_eq_true]
            refine .inr (List.any_eq_true.mpr ⟨y, List.mem_of_getElem? (i := m) (by rw [List.getElem?_take, if_pos lm]; exact hm0), tb⟩)
          rw [this] at k3
          exact k3 H7 ((ee.trans e6).trans e7)
        · by_cases c : j < m
          · exact hc j y' c hy
          · have : j = m := by omega
            subst this
            rw [hm0] at hy
            have := Option.some.inj hy
            subst this
            exact tb
      · rintro t σ' H5 ⟨_, ht, e5, hc, v1, v2, v3, rfl⟩
        refine s_ret ev_c fun H6 e6 => ?_
        have : GlaPlan.touches S i l = false := by
          unfold GlaPlan.touches
          rw [hb, Bool.false_or, List.any_eq_false]
          intro m hm
          obtain ⟨j, hj⟩ := List.getElem?_of_mem hm
          have lj : j < i := by
            have := (List.getElem?_eq_some_iff.mp hj).1
            rw [List.length_take] at this
            omega
          rw [List.getElem?_take, if_pos lj] at hj
          rw [hc j m (by rw [List.length_take]; omega) hj]
          simp
        rw [this] at k3
        exact k3 H6 ((e4.trans e5).trans e6)
theorem spv_free {C : Addr} {H : Hp} {a : Addr} {sz : Nat} {S : GlaPlan.Plan} {i : Nat} {l : Nat × Nat} {iz : Int} (D : Dw K C H a sz S) (O : Pre5 S) (hl : S.lines[i]? = some l) (e : iz = (i : Int)) : SpV (spFree K C) [.ref a, .int iz] H (.bl (!GlaPlan.touches S i l)) :=
  fun H1 e1 Q q E => ⟨a, sz, S, i, l, by rw [e], D.mono e1, O, hl, q⟩
theorem ok_check_crossings (T : Txt K mg) : FnOk P w K mg base (L2.CX P w) 4 T.check_crossings.f T.check_crossings.fd ["drawing"] (spChk K T.Drawing.C T.x_NoCartoon.C Pre5 fun S _ => f7 S) := by
  refine T.check_crossings.F.okX sc_check_crossings (fun vs H Q E h => ?_) (fun cdv A outer s H vs Q E hr h => ?_)
  · obtain ⟨a, sz, S, rfl, _⟩ := h
    rfl
  · refine ⟨_, (pss_one (ps_for (passes_of rfl) rfl (pi_range1 rfl T.n_range (pa_cons (pe_callB call_len_seq (by rfl) T.n_len PySem.boot_len (pa_cons (pe_fld (pv 0) rfl) pa_nil)) pa_nil)) (pg_name (i := 1) sc_check_crossings.nd rfl (Or.inl rfl)) (pss_one (ps_expr (pe_call (ok_ask T) (hr.mono (by decide)) rfl T.ask.g T.ask.F.kp T.ask.b .nil (passes_call (takes_of rfl rfl rfl rfl) (fun _ _ _ _ h => h)) (pa_cons (pe_call (ok_is_free T) (hr.mono (by decide)) rfl T.is_free.g T.is_free.F.kp T.is_free.b .nil pass0 (pa_cons (pv 0) (pa_cons (pv 1) pa_nil))) (pa_cons pe_int (pa_cons (pe_meth (pv 0) T.Drawing.cl T.Drawing.line_place.m (ok_Drawing_line_place T) (hr.mono (by decide)) T.Drawing.line_place.b .nil pass0 (pa_cons (pv 1) pa_nil)) pa_nil)))))))), ?_⟩
    obtain ⟨a, sz, S, rfl, hD, hP, ⟨kE, kO⟩⟩ := h
    have ct := hD.ct
    have hD0 := hD
    obtain ⟨dx, c, l1, l2, l3, D⟩ := hD
    have cl := T.Drawing.cl
    obtain ⟨ls, r1, r2, r3⟩ := id D.ls
    rw [List.length_map] at r2
    have zl : (ls.map V.ref).length = S.lines.length := by rw [List.length_map, r2]
    refine s_forR1 (n := ((ls.map V.ref).length : Int)) (ea_cons (ev_lenL (ev_fld (ev_var rfl) D.ob cl T.Drawing.na_lines dF_lines) r1) ea_nil) (by rw [zl]; have := hP.t.2.1; omega)
      (fun i σ' H' => Ex H H' ∧ (∀ j y, j < i → S.lines[j]? = some y → GlaPlan.touches S j y = false) ∧ ∃ v1, σ' = [some (.ref a), v1]) (fun H4 e4 => ⟨e4, fun j y hj => by omega, _, rfl⟩) ?_ ?_
    · rintro i σ' H' hi ⟨e, hb, v1, rfl⟩
      have lt : i < S.lines.length := by omega
      have hl : S.lines[i]? = some S.lines[i] := List.getElem?_eq_getElem lt
      generalize S.lines[i] = l at hl
      refine x_ask (ea_cons (ev_call (ea_cons (ev_var rfl) (ea_cons (ev_var rfl) ea_nil)) (spv_free (hD0.mono e) hP hl rfl)) (ea_cons ev_c (ea_cons (ev_meth (ev_var rfl) (e _ _ D.ob) dF_no (ea_cons (ev_var rfl) ea_nil) (spv_pl (ct.mono e) rfl)) ea_nil))) (fun tb => ?_) (fun tb H4 e4 => ⟨e.trans e4, fun j y hj hy => ?_, _, rfl⟩)
      · have ff := firstAt_some (p := GlaPlan.touches S) hl (by simpa using tb) (fun j y hj hy => hb j y hj hy)
        exact (kE ⟨7, GlaPlan.linePlace S i⟩ (by show f7 S = _; unfold f7; rw [ff]; rfl)).mono e
      · by_cases c : j < i
        · exact hb j y c hy
        · have : j = i := by omega
          subst this
          rw [hl] at hy
          have := Option.some.inj hy
          subst this
          simpa using tb
    · rintro σ' H' ⟨e, hb, v1, rfl⟩
      refine kO ?_ H' e
      show f7 S = none
      unfold f7
      rw [firstAt_none.mpr fun i x hx => hb i x (by have := (List.getElem?_eq_some_iff.mp hx).1; omega) hx]
      rfl
end
end Lead
namespace Lead
open PySem PySem.Spec PyProof.Rows L2 Evl LeadT
/-! ### lists that grow, many -/
structure Rows (H0 H : Hp) (p : Addr) (es : List Addr) (r : Nat → List Int) : Prop where
  ex : Ex H0 H
  pn : H0 p = none
  pl : H p = some (.lst (es.map V.ref))
  at_ : ∀ k e, es[k]? = some e → H0 e = none ∧ H e = some (.lst ((r k).map V.int)) ∧ e ≠ p
  nd : es.Nodup
theorem Rows.mono {H0 H H' : Hp} {p : Addr} {es : List Addr} {r : Nat → List Int} (h : Rows H0 H p es r) (e : Ex H H') : Rows H0 H' p es r := ⟨h.ex.trans e, h.pn, e _ _ h.pl, fun k x hx => ⟨(h.at_ k x hx).1, e _ _ (h.at_ k x hx).2.1, (h.at_ k x hx).2.2⟩, h.nd⟩
theorem Rows.put {H0 H : Hp} {p : Addr} {es : List Addr} {r r' : Nat → List Int} {k : Nat} {e : Addr} (h : Rows H0 H p es r) (hk : es[k]? = some e) (hr : ∀ j, j ≠ k → r' j = r j) : Rows H0 (upd H e (.lst ((r' k).map V.int))) p es r' := by
  have q := h.at_ k e hk
  refine ⟨Ex.mut h.ex q.1, h.pn, by rw [upd_ne q.2.2.symm]; exact h.pl, fun j x hx => ?_, h.nd⟩
  have qx := h.at_ j x hx
  refine ⟨qx.1, ?_, qx.2.2⟩
  by_cases c : j = k
  · subst c
    rw [hk] at hx
    have := Option.some.inj hx
    subst this
    exact upd_same
  · have ne : x ≠ e := by
      intro z
      subst z
      exact c (nd_ix h.nd hx hk)
    rw [upd_ne ne, hr j c]
    exact qx.2.1
theorem Rows.ll {K : PySem.W.Frag} {H0 H : Hp} {p : Addr} {es : List Addr} {r : Nat → List Int} (h : Rows H0 H p es r) : LL K H p ((List.range es.length).map r) := by
  refine ⟨es, sq_of h.pl, by rw [List.length_map, List.length_range], fun i a row hi hr => ?_⟩
  have lt := (List.getElem?_eq_some_iff.mp hi).1
  rw [List.getElem?_map, List.getElem?_range lt] at hr
  have hr : r i = row := Option.some.inj hr
  rw [← hr]
  exact sq_of (h.at_ i a hi).2.1
/-- as many new empty lists as a list has items -/
theorem y_empty {K : PySem.W.Frag} {σ : L2.St} {H : Hp} {D : Ends} {tz : TS} {i j : Nat} {tl : TE} {l : Addr} {xs : List V} {own : List Nat} (hl : Ev tl σ H (.ref l)) (hx : SqL K H l xs) (hz : xs.length ≤ 40000) (hw : ∀ x, wipe ((wipe σ own).set j (some x)) own = wipe σ own)
    (k : ∀ (p : Addr) (es : List Addr) (H1 : Hp), es.length = xs.length → Rows H H1 p es (fun _ => []) → tz D (σ.set i (some (.ref p))) H1) : tSeq (tAsg (tLc (iList K tl) (gName j) tYes (tLst tNil) own) (gName i)) tz D σ H := by
  refine hl H (Ex.refl H) _ fun H1 e1 => ⟨l, rfl, ⟨xs, ex_l e1 hx⟩, fun p np => ?_⟩
  refine lc_list (xs := xs) (fun m H' => ∃ es : List Addr, es.length = m ∧ Rows H H' p es (fun _ => [])) ⟨[], rfl, ?_⟩ (fun m H' _ q => ex_l q.choose_spec.2.ex hx) (fun m x H' hm q => ?_) (fun H' q => ?_)
  · exact ⟨e1.trans (Ex.new np), fresh_back e1 np, upd_same, fun k e he => by simp at he, List.nodup_nil⟩
  · obtain ⟨es, hlen, R⟩ := q
    refine ⟨hw x, ?_⟩
    dsimp only [tYes]
    rw [if_pos rfl]
    refine ⟨by decide, fun e ne => ⟨es.map V.ref, ?_, ?_, es ++ [e], by simp [hlen], ?_⟩⟩
    · rw [upd_ne (ne_of_none R.pl ne)]
      exact R.pl
    · rw [List.length_map, hlen]
      have := (List.getElem?_eq_some_iff.mp hm).1
      exact sz_lt (by omega)
    · have R2 := R.mono (Ex.new (o := .lst []) ne)
      have nep : e ≠ p := (ne_of_none R.pl ne).symm
      have e0 : H e = none := fresh_back R.ex ne
      refine ⟨Ex.mut R2.ex R.pn, R.pn, by rw [upd_same]; simp, fun k x hx => ?_, ?_⟩
      · by_cases c : k < es.length
        · rw [List.getElem?_append_left c] at hx
          have q := R2.at_ k x hx
          exact ⟨q.1, by rw [upd_ne q.2.2]; exact q.2.1, q.2.2⟩
        · have lt := (List.getElem?_eq_some_iff.mp hx).1
          rw [List.length_append] at lt
          have ek : k = es.length := by simp at lt; omega
          subst ek
          rw [List.getElem?_append_right (Nat.le_refl _), Nat.sub_self] at hx
          have := Option.some.inj hx
          subst this
          exact ⟨e0, by rw [upd_ne nep, upd_same]; rfl, nep⟩
      · rw [List.nodup_append]
        refine ⟨R.nd, by simp, fun x hx y hy => ?_⟩
        rw [List.mem_singleton] at hy
        subst hy
        obtain ⟨k, hk⟩ := List.getElem?_of_mem hx
        exact ne_of_none (R.at_ k x hk).2.1 ne
  · obtain ⟨es, hlen, R⟩ := q
    exact k p es H' hlen R
/-- the neighbours of a point by some of the lines -/
def nearL (ls : List (Nat × Nat)) (v : Nat) : List Int := (ls.filterMap fun (l : Nat × Nat) => if l.1 = v then some l.2 else if l.2 = v then some l.1 else none).map fun (n : Nat) => (n : Int)
theorem nearL_snoc (ls : List (Nat × Nat)) (l : Nat × Nat) (v : Nat) : nearL (ls ++ [l]) v = nearL ls v ++ (if l.1 = v then [((l.2 : Nat) : Int)] else if l.2 = v then [((l.1 : Nat) : Int)] else []) := by
  unfold nearL
  rw [List.filterMap_append, List.map_append]
  congr 1
  by_cases c : l.1 = v
  · simp [c]
  · by_cases d : l.2 = v
    · simp [c, d]
    · simp [c, d]
theorem nearL_len (ls : List (Nat × Nat)) (v : Nat) : (nearL ls v).length ≤ ls.length := by
  unfold nearL
  rw [List.length_map]
  exact List.length_filterMap_le _ _
def nbr (S : GlaPlan.Plan) : List (List Int) := (List.range S.pts.length).map fun v => nearL S.lines v
theorem nbr_near (S : GlaPlan.Plan) (v : Nat) : nearL S.lines v = (S.near v).map fun (n : Nat) => (n : Int) := rfl
section
variable {P : Program} {w : World} {K : PySem.W.Frag} {mg : Str → Option Value} {base : Heap}
def spNbr (K : PySem.W.Frag) (C : Addr) : Sp := fun vs H Q _ => ∃ (a : Addr) (sz : Nat) (S : GlaPlan.Plan), vs = [.ref a] ∧ Dw K C H a sz S ∧ Pre5 S ∧ ∀ (p : Addr) (H' : Hp), H p = none → Ex H H' → LL K H' p (nbr S) → Q (.ref p) H'
theorem ok_neighbours_of (T : Txt K mg) : FnOk P w K mg base CX0 1 T.neighbours_of.f T.neighbours_of.fd ["drawing"] (spNbr K T.Drawing.C) := by
  refine T.neighbours_of.F.ok sc_neighbours_of (fun vs H Q E h => ?_) (fun cdv A outer s H vs Q E hr h => ?_)
  · obtain ⟨a, sz, S, rfl, _⟩ := h
    rfl
  · refine ⟨_, (pss_cons (ps_setLc (i := 1) (own := [("point", 4)]) (g := (gName 4)) rfl sc_neighbours_of.nd rfl rfl (sw_true rfl rfl rfl (by decide +kernel)) (pi_list (pe_fld (pv 0) rfl)) (blkOk_by (N := N_neighbours_of) (sc := defScope s_neighbours_of) (by decide +kernel)) (fun _ _ _ _ _ => (pg_name (i := 4) sc_neighbours_of.nd rfl (Or.inl rfl))) (fun _ _ _ _ _ => pts_nil) (fun _ _ _ _ _ => (pe_lst pa_nil)))
    (pss_cons (ps_for PassesOwn.never rfl (pi_list (pe_fld (pv 0) rfl)) (pg_tup rfl (pgs_cons (pg_name (i := 2) sc_neighbours_of.nd rfl (Or.inl rfl)) (pgs_cons (pg_name (i := 3) sc_neighbours_of.nd rfl (Or.inl rfl)) pgs_nil))) (pss_cons (ps_expr (pe_bm PySem.F.plainAttrs_list PySem.F.slot_list_append PySem.F.type_list_append mt_append (pe_ix ix_list (pv 1) (pv 2) (fun _ _ => rfl)) (pa_cons (pv 3) pa_nil)))
    (pss_one (ps_expr (pe_bm PySem.F.plainAttrs_list PySem.F.slot_list_append PySem.F.type_list_append mt_append (pe_ix ix_list (pv 1) (pv 3) (fun _ _ => rfl)) (pa_cons (pv 2) pa_nil))))))
    (pss_one (ps_ret (pv 1))))), ?_⟩
    obtain ⟨a, sz, S, rfl, hD, hP, k⟩ := h
    obtain ⟨dx, c, l1, l2, l3, D⟩ := hD
    have cl := T.Drawing.cl
    obtain ⟨as, q1, q2, q3⟩ := id D.ps
    rw [List.length_map] at q2
    obtain ⟨ls, r1, r2, r3⟩ := id D.ls
    rw [List.length_map] at r2
    refine y_empty (ev_fld (ev_var rfl) D.ob cl T.Drawing.na_points dF_points) q1 (by rw [List.length_map, q2]; have := hP.t.1; omega) (fun x => rfl) fun p es H1 hlen R => ?_
    rw [List.length_map, q2] at hlen
    refine q_forL (xs := ls.map V.ref) (ev_fld (ev_var rfl) (R.ex _ _ D.ob) cl T.Drawing.na_lines dF_lines) (ex_l R.ex r1)
      (fun m σ' H' => Rows H H' p es (fun v => nearL (S.lines.take m) v) ∧ ∃ v1 v2 v3, σ' = [some (.ref a), some (.ref p), v1, v2, v3]) (fun H2 e2 => ⟨R.mono e2, _, _, _, rfl⟩) (fun m σ' H' _ q => ex_l q.1.ex r1) ?_ ?_
    · rintro m x σ' H' hm ⟨R, v1, v2, v3, rfl⟩
      have lm : m < S.lines.length := by
        have := (List.getElem?_eq_some_iff.mp hm).1
        rw [List.length_map] at this
        omega
      have hm0 : S.lines[m]? = some S.lines[m] := List.getElem?_eq_getElem lm
      generalize S.lines[m] = y at hm0
      obtain ⟨u, hu, huz⟩ := PtL.at_ (l := l2) (by rw [List.length_map]; exact r2) r3 (map_at (f := lnZ) hm0)
      rw [hu] at hm
      have hm := Option.some.inj hm
      subst hm
      have yl := hP.line_lt (List.mem_of_getElem? hm0)
      have tk : S.lines.take (m + 1) = S.lines.take m ++ [y] := by
        rw [List.take_add_one, hm0]
        rfl
      have tl : (S.lines.take m).length ≤ 8192 := by rw [List.length_take]; have := hP.t.2.1; omega
      refine ⟨u, _, rfl, huz.mono R.ex, rfl, _, _, rfl, _, _, rfl, rfl, ?_⟩
      have h1 : es[y.1]? = some (es[y.1]'(by omega)) := List.getElem?_eq_getElem _
      have h2 : es[y.2]? = some (es[y.2]'(by omega)) := List.getElem?_eq_getElem _
      generalize es[y.1]'(by omega) = ea at h1
      generalize es[y.2]'(by omega) = eb at h2
      refine q_app (xs := (nearL (S.lines.take m) y.1).map V.int) (R.at_ _ _ h1).2.1 (ev_op (ev_var rfl) (ev_var rfl) (rv_ixL (sq_of R.pl) (at_of rfl (by rw [List.getElem?_map, h1]; rfl)))) (ev_var rfl) (by rw [List.length_map]; have := nearL_len (S.lines.take m) y.1; omega) fun H2 e2 => ?_
      have R2 := (R.mono e2).put (r' := fun v => if v = y.1 then nearL (S.lines.take (m + 1)) v else nearL (S.lines.take m) v) h1 (fun j hj => by rw [if_neg hj])
      have er : (nearL (S.lines.take m) y.1).map V.int ++ [V.int (lnZ y).2] = (if y.1 = y.1 then nearL (S.lines.take (m + 1)) y.1 else nearL (S.lines.take m) y.1).map V.int := by
        rw [if_pos rfl, tk, nearL_snoc, if_pos rfl, List.map_append]
        rfl
      rw [← er] at R2
      generalize upd H2 ea (.lst ((nearL (S.lines.take m) y.1).map V.int ++ [V.int (lnZ y).2])) = H3 at R2 ⊢
      have q2' := (R2.at_ _ _ h2).2.1
      rw [if_neg (by omega)] at q2'
      refine s_app (xs := (nearL (S.lines.take m) y.2).map V.int) q2' (ev_op (ev_var rfl) (ev_var rfl) (rv_ixL (sq_of R2.pl) (at_of rfl (by rw [List.getElem?_map, h2]; rfl)))) (ev_var rfl) (by rw [List.length_map]; have := nearL_len (S.lines.take m) y.2; omega) fun H4 e4 => ?_
      have R4 := (R2.mono e4).put (r' := fun v => nearL (S.lines.take (m + 1)) v) h2 (fun j hj => by
        by_cases c : j = y.1
        · rw [if_pos c]
        · rw [if_neg c, tk, nearL_snoc, if_neg (fun z => c z.symm), if_neg (fun z => hj z.symm), List.append_nil])
      have er : (nearL (S.lines.take m) y.2).map V.int ++ [V.int (lnZ y).1] = (nearL (S.lines.take (m + 1)) y.2).map V.int := by
        rw [tk, nearL_snoc, if_neg (by omega), if_pos rfl, List.map_append]
        rfl
      rw [← er] at R4
      exact ⟨R4, _, _, _, rfl⟩
    · rintro σ' H' ⟨R, v1, v2, v3, rfl⟩
      refine s_ret (ev_var rfl) fun H2 e2 => ?_
      rw [List.length_map, r2, List.take_length] at R
      have := (R.mono e2).ll (K := K)
      rw [hlen] at this
      exact k p H2 R.pn (R.ex.trans e2) this
end
end Lead
namespace Lead
open PySem PySem.Spec PyProof.Rows L2 Evl LeadT
/-! ### dicts of numbers -/
def kd (ks : List Nat) : List (Key × V) := ks.map fun k => (Sum.inl ((k : Nat) : Int), V.bl true)
theorem kd_val (ks : List Nat) (v : Nat) : (valV (kd ks) (Sum.inl ((v : Nat) : Int))).isSome = decide (v ∈ ks) := by
  rw [← valV_any, Bool.eq_iff_iff, List.any_eq_true]
  unfold kd
  simp only [List.mem_map, decide_eq_true_eq]
  constructor
  · rintro ⟨x, ⟨k, hk, rfl⟩, e⟩
    have : ((k : Nat) : Int) = ((v : Nat) : Int) := Sum.inl.inj e
    have : k = v := by omega
    rw [← this]
    exact hk
  · intro h
    exact ⟨_, ⟨v, h, rfl⟩, rfl⟩
theorem kd_put (ks : List Nat) (v : Nat) (h : ¬ v ∈ ks) : putK (kd ks) (Sum.inl ((v : Nat) : Int)) (V.bl true) = kd (ks ++ [v]) := by
  unfold putK
  rw [valV_any, kd_val, decide_eq_false h, if_neg Bool.false_ne_true]
  unfold kd
  rw [List.map_append]
  rfl
section
variable {K : PySem.W.Frag} {σ : L2.St} {H H' : Hp} {ta tb ty td tv : TE} {D : Ends} {d : Addr} {kvs : List (Key × V)} {k : Int}
theorem ev_dnotin (hk : Ev ty σ H (.int k)) (hd : Ev td σ H (.ref d)) (h : H d = some (.dK kvs)) : Ev (tDNotIn ty td) σ H (.bl (!(valV kvs (Sum.inl k)).isSome)) := fun H1 e Q q =>
  hk H1 e _ fun H2 e2 => hd H2 (e.trans e2) _ fun H3 e3 => ⟨d, _, rfl, DGet.k (k := Sum.inl k) ((((e.trans e2).trans e3)) _ _ h), q H3 (e2.trans e3)⟩
theorem ev_din (hk : Ev ty σ H (.int k)) (hd : Ev td σ H (.ref d)) (h : H d = some (.dK kvs)) : Ev (tDIn ty td) σ H (.bl (valV kvs (Sum.inl k)).isSome) := fun H1 e Q q =>
  hk H1 e _ fun H2 e2 => hd H2 (e.trans e2) _ fun H3 e3 => ⟨d, _, rfl, DGet.k (k := Sum.inl k) ((((e.trans e2).trans e3)) _ _ h), q H3 (e2.trans e3)⟩
theorem x_dput {v : V} (hv : Ev tv σ H v) (hd : Ev td σ H (.ref d)) (hk : Ev ty σ H (.int k)) (h : H d = some (.dK kvs)) (hl : kvs.length < sizeLine) (q : ∀ H1, Ex H H1 → D.nx σ (upd H1 d (.dK (putK kvs (Sum.inl k) v)))) : sDPut td ty tv D σ H :=
  hv H (Ex.refl H) _ fun H1 e1 => hd H1 e1 _ fun H2 e2 => hk H2 (e1.trans e2) _ fun H3 e3 => ⟨d, _, rfl, DPut.k (k := Sum.inl k) (((e1.trans e2).trans e3) _ _ h) hl, q H3 ((e1.trans e2).trans e3)⟩
theorem y_dput {v : V} {tz : TS} (hv : Ev tv σ H v) (hd : Ev td σ H (.ref d)) (hk : Ev ty σ H (.int k)) (h : H d = some (.dK kvs)) (hl : kvs.length < sizeLine) (q : ∀ H1, Ex H H1 → tz D σ (upd H1 d (.dK (putK kvs (Sum.inl k) v)))) : tSeq (sDPut td ty tv) tz D σ H :=
  x_dput (D := { D with nx := tz D }) hv hd hk h hl q
theorem ev_lenD {a : Addr} (ha : Ev ta σ H (.ref a)) (h : H a = some (.dK kvs)) : Ev (tCB (fun xs H Q => ∃ d kvs, xs = [V.ref d] ∧ H d = some (.dK kvs) ∧ Q (.int (kvs : List (Key × V)).length) H) (tCons ta tNil)) σ H (.int (kvs.length : Int)) := fun H1 e Q q =>
  ha H1 e _ fun H2 e2 => ⟨a, kvs, rfl, (e.trans e2) _ _ h, q H2 e2⟩
end
/-! ### the spread, as the program does it -/
open GlaPlan
/-- seen and met agree -/
structure RR (n : Nat) (lo : Int) (seen : Array Bool) (ks : List Nat) : Prop where
  size : seen.size = n
  iff : ∀ v, v < n → (seen.getD v true = true ↔ v ∈ ks ∨ (v : Int) = lo)
  nd : ks.Nodup
  lt : ∀ v ∈ ks, v < n
  lo : ∀ v ∈ ks, (v : Int) ≠ lo
theorem RR.len {n : Nat} {lo : Int} {seen : Array Bool} {ks : List Nat} (R : RR n lo seen ks) : ks.length ≤ n := by
  have := nodup_len R.nd (w := List.range n) fun a ha => List.mem_range.mpr (R.lt a ha)
  rwa [List.length_range] at this
def stp (a : List Nat × Array Bool) (j : Nat) : List Nat × Array Bool := if a.2.getD j true = true then a else (j :: a.1, a.2.setIfInBounds j true)
theorem RR.step {n : Nat} {lo : Int} {a : List Nat × Array Bool} {ks : List Nat} (R : RR n lo a.2 ks) {j : Nat} (hj : j < n) : ((j ∈ ks ∨ (j : Int) = lo) → stp a j = a) ∧ (¬ (j ∈ ks ∨ (j : Int) = lo) → stp a j = (j :: a.1, a.2.setIfInBounds j true) ∧ RR n lo (a.2.setIfInBounds j true) (ks ++ [j])) := by
  constructor
  · intro h
    unfold stp
    rw [if_pos ((R.iff j hj).mpr h)]
  · intro h
    have h1 : ¬ a.2.getD j true = true := fun z => h ((R.iff j hj).mp z)
    refine ⟨by unfold stp; rw [if_neg h1], ?_⟩
    refine ⟨by rw [Array.size_setIfInBounds]; exact R.size, fun v hv => ?_, ?_, fun v hv => ?_, fun v hv => ?_⟩
    · rw [getD_set, List.mem_append, List.mem_singleton]
      by_cases c : j = v
      · subst c
        rw [if_pos ⟨rfl, by rw [R.size]; exact hj⟩]
        simp
      · rw [if_neg (fun z => c z.1), R.iff v hv]
        constructor
        · rintro (q | q)
          · exact .inl (.inl q)
          · exact .inr q
        · rintro ((q | q) | q)
          · exact .inl q
          · exact absurd q.symm c
          · exact .inr q
    · rw [List.nodup_append]
      refine ⟨R.nd, by simp, fun x hx y hy => ?_⟩
      rw [List.mem_singleton] at hy
      subst hy
      rintro rfl
      exact h (.inl hx)
    · rcases List.mem_append.mp hv with q | q
      · exact R.lt v q
      · rw [List.mem_singleton.mp q]
        exact hj
    · rcases List.mem_append.mp hv with q | q
      · exact R.lo v q
      · rw [List.mem_singleton.mp q]
        exact fun z => h (.inr z)
theorem spread_step (near : Array (List Nat)) (f k : Nat) (r : List Nat) (seen : Array Bool) : spread near (f + 1) (k :: r) seen = spread near f ((near.getD k []).foldl stp (r, seen)).1 ((near.getD k []).foldl stp (r, seen)).2 := rfl
theorem spread_done (near : Array (List Nat)) (f : Nat) (seen : Array Bool) : spread near f [] seen = seen := by
  cases f <;> rfl
/-- the program's two objects -/
structure RS (H0 H : Hp) (d q : Addr) (todo ks : List Nat) : Prop where
  ex : Ex H0 H
  dn : H0 d = none
  qn : H0 q = none
  dq : d ≠ q
  dk : H d = some (.dK (kd ks))
  ql : H q = some (.lst (todo.reverse.map fun (n : Nat) => V.int (n : Int)))
theorem RS.mono {H0 H H' : Hp} {d q : Addr} {todo ks : List Nat} (R : RS H0 H d q todo ks) (e : Ex H H') : RS H0 H' d q todo ks := ⟨R.ex.trans e, R.dn, R.qn, R.dq, e _ _ R.dk, e _ _ R.ql⟩
theorem nbr_at {S : Plan} {k : Nat} (h : k < S.pts.length) : (nbr S)[k]? = some ((S.near k).map fun (n : Nat) => (n : Int)) := by
  unfold nbr
  rw [List.getElem?_map, List.getElem?_range h]
  rfl
theorem near_lt {S : Plan} (O : Pre5 S) {k j : Nat} (h : j ∈ S.near k) : j < S.pts.length := by
  rcases near_mem.mp h with q | q
  · have := O.line_lt q
    dsimp only at this
    omega
  · have := O.line_lt q
    dsimp only at this
    omega
theorem near_len (S : Plan) (k : Nat) : (S.near k).length ≤ S.lines.length := List.length_filterMap_le _ _
section
variable {P : Program} {w : World} {K : PySem.W.Frag} {mg : Str → Option Value} {base : Heap}
/-- which points are reached -/
def spReached (K : PySem.W.Frag) : Sp := fun vs H Q _ => ∃ (p : Addr) (S : Plan) (s : Nat) (lo : Int) (first : Array Bool), vs = [.ref p, .int (s : Int), .int lo] ∧ LL K H p (nbr S) ∧ Pre5 S ∧ s < S.pts.length ∧ (s : Int) ≠ lo ∧ RR S.pts.length lo first [] ∧
  ∀ (d : Addr) (H' : Hp) (ks : List Nat), Ex H H' → H d = none → H' d = some (.dK (kd ks)) → RR S.pts.length lo (seenFrom S.nears S.pts.length s first) ks → Q (.ref d) H'
theorem ok_reached (T : Txt K mg) : FnOk P w K mg base CX0 1 T.reached.f T.reached.fd ["neighbours", "start", "left_out"] (spReached K) := by
  refine T.reached.F.ok sc_reached (fun vs H Q E h => ?_) (fun cdv A outer s H vs Q E hr h => ?_)
  · obtain ⟨p, S, s, lo, first, rfl, _⟩ := h
    rfl
  · refine ⟨_, (pss_cons (ps_set (i := 3) sc_reached.nd rfl (.inl rfl) (pe_disp (pps_cons (pv 1) pe_bl pps_nil) (by rfl) (by rfl) (fun z => by cases z) (by decide)))
    (pss_cons (ps_set (i := 4) sc_reached.nd rfl (.inl rfl) (pe_lst (pa_cons (pv 1) pa_nil)))
    (pss_cons (ps_while PassesOwn.never (pt_cmpR op_gt (pe_callB call_len_seq (by rfl) T.n_len PySem.boot_len (pa_cons (pv 4) pa_nil)) pe_int (nomark _)) (pss_one (ps_for PassesOwn.never rfl (pi_list (pe_ix ix_list (pv 0) (pe_bm0 PySem.F.plainAttrs_list PySem.F.slot_list_pop PySem.F.type_list_pop mt_pop (pv 4)) (fun _ _ => rfl))) (pg_name (i := 5) sc_reached.nd rfl (Or.inl rfl)) (pss_one (ps_if (PW.pt (pw_and (pt_cmp (pc_dnotin (hu_of hr) (pv 5) (pv 3))) (pw_and1 (pt_cmpR op_ne (pv 5) (pv 2) (nomark _))))) (pss_cons (ps_dput (hu_of hr) (pv 3) (pv 5) pe_bl rfl)
    (pss_one (ps_expr (pe_bm PySem.F.plainAttrs_list PySem.F.slot_list_append PySem.F.type_list_append mt_append (pv 4) (pa_cons (pv 5) pa_nil))))) pss_nil)))))
    (pss_one (ps_ret (pv 3)))))), ?_⟩
    obtain ⟨p, S, s, lo, first, rfl, hL, hP, hs, hslo, hF, k⟩ := h
    -- met = {start: True}
    refine fun d nd => ⟨_, rfl, ?_⟩
    refine ⟨upd_same, [(Sum.inl (s : Int), V.bl true)], rfl, (by show 1 ≤ 15; decide), ?_⟩
    have hm1 : mergeK [] [(Sum.inl (s : Int), V.bl true)] = kd [s] := rfl
    rw [hm1, upd_upd]
    have e1 : Ex H (upd H d (.dK (kd [s]))) := Ex.new nd
    have h1 : (upd H d (.dK (kd [s]))) d = some (.dK (kd [s])) := upd_same
    generalize upd H d (.dK (kd [s])) = H1 at e1 h1
    refine q_asgL (xs := [V.int (s : Int)]) (el_lst (ea_cons (ev_var rfl) ea_nil) (by show 1 ≤ 100000; decide)) fun q H2 nq e2 h2 => ?_
    have R0 : RR S.pts.length lo (first.setIfInBounds s true) [s] := ((RR.step (a := ([], first)) hF hs).2 (by rintro (z | z); cases z; exact hslo z)).2
    have RS0 : RS H H2 d q [s] [s] := ⟨e1.trans e2, nd, fresh_back e1 nq, ne_of_none h1 nq, e2 _ _ h1, h2⟩
    refine q_while (fun f σ' H' => ∃ todo seen ks, RS H H' d q todo ks ∧ RR S.pts.length lo seen ks ∧ (∀ v ∈ todo, v < S.pts.length) ∧ spread S.nears f todo seen = seenFrom S.nears S.pts.length s first ∧ todo.length + (S.pts.length - ks.length) ≤ f ∧ f ≤ S.pts.length + 1 ∧ ∃ v1, σ' = [some (.ref p), some (.int (s : Int)), some (.int lo), some (.ref d), some (.ref q), v1])
      (S.pts.length + 1) ⟨[s], first.setIfInBounds s true, [s], RS0, R0, by simpa using hs, rfl, by simp; omega, Nat.le_refl _, _, rfl⟩ ?_
    rintro f σ' H' ⟨todo, seen, ks, hRS, hRR, htd, hsp, hfu, hfl, v1, rfl⟩
    refine ⟨_, et_test (ev_op (ev_lenL (ev_var rfl) (sq_of hRS.ql)) ev_c rv_I0), fun tb H3 e3 => ?_, fun tb H3 e3 => ?_⟩
    · have tl : 0 < todo.length := by
        have := of_decide_eq_true tb
        rw [List.length_map, List.length_reverse] at this
        omega
      obtain ⟨x, r, rfl⟩ : ∃ x r, todo = x :: r := List.exists_cons_of_ne_nil (List.length_pos_iff.mp tl)
      obtain ⟨f, rfl⟩ : ∃ g, f = g + 1 := ⟨f - 1, by simp at hfu; omega⟩
      have hRS := hRS.mono e3
      have xl := htd x (by simp)
      refine ⟨_, fun σ2 H4 h => ⟨f, by omega, h⟩, ?_⟩
      -- the row of the one popped
      refine ⟨_, rfl, _, rfl, .inl ⟨rfl, _, sq_of hRS.ql⟩, ?_⟩
      refine ⟨q, _, V.int (x : Int), rfl, rfl, hRS.ql, ?_, ?_⟩
      · rw [List.reverse_cons, List.map_append, List.length_append]
        simp
      have dl : ((x :: r).reverse.map fun (n : Nat) => V.int (n : Int)).dropLast = r.reverse.map fun (n : Nat) => V.int (n : Int) := by
        rw [List.reverse_cons, List.map_append]
        simp
      rw [dl]
      have hRS4 : RS H (upd H3 q (.lst (r.reverse.map fun (n : Nat) => V.int (n : Int)))) d q r ks := ⟨Ex.mut hRS.ex hRS.qn, hRS.dn, hRS.qn, hRS.dq, by rw [upd_ne hRS.dq]; exact hRS.dk, upd_same⟩
      generalize upd H3 q (.lst (r.reverse.map fun (n : Nat) => V.int (n : Int))) = H4 at hRS4
      obtain ⟨es, q1, q2, q3⟩ := id hL
      have xr : (es.map V.ref)[x]? = some (.ref (es[x]'(by rw [q2]; unfold nbr; simpa using xl))) := by rw [List.getElem?_map, List.getElem?_eq_getElem]; rfl
      have hrow : SqL K H (es[x]'(by rw [q2]; unfold nbr; simpa using xl)) (((S.near x).map fun (n : Nat) => (n : Int)).map V.int) := q3 x _ _ (List.getElem?_eq_getElem _) (nbr_at xl)
      generalize es[x]'(by rw [q2]; unfold nbr; simpa using xl) = row at xr hrow
      refine ⟨p, _, (x : Int), .ref row, rfl, rfl, ex_l hRS4.ex q1, at_of rfl xr, ?_⟩
      have rl : (((S.near x).map fun (n : Nat) => (n : Int)).map V.int).length = (S.near x).length := by rw [List.length_map, List.length_map]
      simp only [List.length_cons] at hfu
      refine ⟨row, rfl, ⟨_, ex_l hRS4.ex hrow⟩, for_list (xs := ((S.near x).map fun (n : Nat) => (n : Int)).map V.int) (fun i σ' H' => ∃ ks', RS H H' d q (((S.near x).take i).foldl stp (r, seen)).1 ks' ∧ RR S.pts.length lo (((S.near x).take i).foldl stp (r, seen)).2 ks' ∧ (∀ v ∈ (((S.near x).take i).foldl stp (r, seen)).1, v < S.pts.length) ∧
          (((S.near x).take i).foldl stp (r, seen)).1.length + (S.pts.length - ks'.length) ≤ f ∧ ∃ v1, σ' = [some (.ref p), some (.int (s : Int)), some (.int lo), some (.ref d), some (.ref q), v1]) ⟨ks, hRS4, hRR, fun v hv => htd v (by simp at hv; simp [hv]), by simp only [List.take_zero, List.foldl_nil]; omega, _, rfl⟩ (fun i σ' H' _ z => ex_l z.choose_spec.1.ex hrow) ?_ ?_⟩
      · rintro i y σ' H5 hi ⟨ks', S5, R5, T5, F5, v1, rfl⟩
        have li : i < (S.near x).length := by
          have := (List.getElem?_eq_some_iff.mp hi).1
          rw [rl] at this
          exact this
        have hj : (S.near x)[i]? = some (S.near x)[i] := List.getElem?_eq_getElem li
        have hjm := List.getElem_mem li
        generalize (S.near x)[i] = j at hj hjm
        rw [List.getElem?_map, List.getElem?_map, hj] at hi
        have hi : V.int (j : Int) = y := Option.some.inj hi
        subst hi
        have jl := near_lt hP hjm
        have tk : (S.near x).take (i + 1) = (S.near x).take i ++ [j] := by
          rw [List.take_add_one, hj]
          rfl
        have fo : ((S.near x).take (i + 1)).foldl stp (r, seen) = stp (((S.near x).take i).foldl stp (r, seen)) j := by
          rw [tk, List.foldl_append]
          rfl
        rw [fo]
        generalize ((S.near x).take i).foldl stp (r, seen) = ac at S5 R5 T5 F5
        have stq := RR.step R5 jl
        have lk := R5.len
        refine s_if (et_and (et_B (ev_dnotin (ev_var rfl) (ev_var rfl) S5.dk)) fun _ => (et_test (ev_op (ev_var rfl) (ev_var rfl) rv_neI))) (fun tb H6 e6 => ?_) (fun tb H6 e6 => ?_)
        · rw [kd_val, Bool.and_eq_true] at tb
          have n1 : ¬ j ∈ ks' := by simpa using tb.1
          have n2 : ¬ (j : Int) = lo := by simpa using tb.2
          have q2' := stq.2 (by rintro (z | z); exact n1 z; exact n2 z)
          have S6 := S5.mono e6
          refine y_dput ev_c (ev_var rfl) (ev_var rfl) S6.dk (by unfold kd; rw [List.length_map]; have := hP.t.1; exact sz_lt (by omega)) fun H7 e7 => ?_
          rw [kd_put ks' j n1]
          have S7 := S6.mono e7
          have S8 : RS H (upd H7 d (.dK (kd (ks' ++ [j])))) d q ac.1 (ks' ++ [j]) := ⟨Ex.mut S7.ex S7.dn, S7.dn, S7.qn, S7.dq, upd_same, by rw [upd_ne S7.dq.symm]; exact S7.ql⟩
          generalize upd H7 d (.dK (kd (ks' ++ [j]))) = H8 at S8
          have lac : ac.1.length ≤ f := by omega
          refine s_app (xs := ac.1.reverse.map fun (n : Nat) => V.int (n : Int)) S8.ql (ev_var rfl) (ev_var rfl) (by rw [List.length_map, List.length_reverse]; have := hP.t.1; omega) fun H9 e9 => ?_
          have S9 := S8.mono e9
          rw [q2'.1]
          refine ⟨ks' ++ [j], ⟨Ex.mut S9.ex S9.qn, S9.dn, S9.qn, S9.dq, by rw [upd_ne S9.dq]; exact S9.dk, by rw [upd_same]; simp⟩, q2'.2, fun v hv => ?_, ?_, _, rfl⟩
          · rcases List.mem_cons.mp hv with rfl | hv
            · exact jl
            · exact T5 v hv
          · have := q2'.2.len
            simp only [List.length_cons, List.length_append, List.length_nil] at this ⊢
            omega
        · rw [kd_val, Bool.and_eq_false_iff] at tb
          have q1' := stq.1 (by
            rcases tb with z | z
            · left; simpa using z
            · right; simpa using z)
          rw [q1']
          exact ⟨ks', S5.mono e6, R5, T5, F5, _, rfl⟩
      · rintro σ' H5 ⟨ks', S5, R5, T5, F5, v1, rfl⟩
        rw [rl, List.take_length] at S5 R5 T5 F5
        refine ⟨_, _, ks', S5, R5, T5, ?_, F5, by omega, _, rfl⟩
        rw [← hsp, spread_step, nears_get, if_pos xl]
    · have t0 : todo = [] := by
        have := of_decide_eq_false tb
        rw [List.length_map, List.length_reverse] at this
        exact List.eq_nil_of_length_eq_zero (by omega)
      subst t0
      rw [spread_done] at hsp
      subst hsp
      have hRS := hRS.mono e3
      refine s_ret (ev_var rfl) fun H4 e4 => ?_
      exact k d H4 ks (hRS.ex.trans e4) nd (e4 _ _ hRS.dk) hRR
end
end Lead
namespace Lead
open PySem PySem.Spec PyProof.Rows L2 Evl LeadT
open GlaPlan
theorem getD_any {a : Array Bool} {v : Nat} (h : v < a.size) (d e : Bool) : a.getD v d = a.getD v e := by
  rw [Array.getD_eq_getD_getElem?, Array.getD_eq_getD_getElem?, Array.getElem?_eq_getElem h]
  rfl
theorem RR.none (n : Nat) : RR n (-1) (noneSeen n) [] := by
  refine ⟨by simp [noneSeen], fun v hv => ?_, List.nodup_nil, by simp, by simp⟩
  rw [none_get, if_pos hv]
  simp
theorem RR.one (n c : Nat) (hc : c < n) : RR n (c : Int) ((noneSeen n).setIfInBounds c true) [] := by
  refine ⟨by simp [noneSeen], fun v hv => ?_, List.nodup_nil, by simp, by simp⟩
  rw [getD_set, none_get, if_pos hv]
  simp only [List.not_mem_nil, false_or]
  by_cases e : c = v
  · subst e
    rw [if_pos ⟨rfl, by simpa [noneSeen] using hc⟩]
    simp
  · rw [if_neg (fun z => e z.1)]
    constructor
    · intro z; cases z
    · intro z; omega
/-- all but one are met -/
theorem RR.all {n c : Nat} {seen : Array Bool} {ks : List Nat} (R : RR n (c : Int) seen ks) (hc : c < n) : seen.contains false = false ↔ ks.length + 1 = n := by
  have nc : ¬ c ∈ ks := fun h => R.lo c h rfl
  have nd : (c :: ks).Nodup := List.nodup_cons.mpr ⟨nc, R.nd⟩
  have sub : ∀ v ∈ c :: ks, v ∈ List.range n := by
    intro v hv
    rcases List.mem_cons.mp hv with rfl | hv
    · exact List.mem_range.mpr hc
    · exact List.mem_range.mpr (R.lt v hv)
  have le := nodup_len nd sub
  rw [List.length_range, List.length_cons] at le
  have cf : seen.contains false = false ↔ ∀ v, v < n → seen.getD v true = true := by
    rw [Bool.eq_false_iff, Ne, Array.contains_iff]
    constructor
    · intro h v hv
      false_or_by_contra
      rename_i q
      apply h
      have q : seen.getD v true = false := by simpa using q
      rw [Array.getD_eq_getD_getElem?, Array.getElem?_eq_getElem (by rw [R.size]; exact hv)] at q
      have q : seen[v]'(by rw [R.size]; exact hv) = false := q
      rw [← q]
      exact Array.getElem_mem _
    · intro h z
      obtain ⟨i, hi, e⟩ := Array.mem_iff_getElem.mp z
      have := h i (by rw [← R.size]; exact hi)
      rw [Array.getD_eq_getD_getElem?, Array.getElem?_eq_getElem hi] at this
      have this : seen[i] = true := this
      rw [e] at this
      cases this
  rw [cf]
  constructor
  · intro h
    have := nodup_len (l := List.range n) (w := c :: ks) List.nodup_range fun v hv => by
      have hv := List.mem_range.mp hv
      rcases (R.iff v hv).mp (h v hv) with q | q
      · simp [q]
      · have : v = c := by omega
        simp [this]
    rw [List.length_range, List.length_cons] at this
    omega
  · intro h v hv
    rw [R.iff v hv]
    false_or_by_contra
    rename_i q
    have q1 : ¬ v ∈ ks := fun z => q (.inl z)
    have q2 : v ≠ c := fun z => q (.inr (by rw [z]))
    have := nodup_len (l := v :: c :: ks) (w := List.range n) (List.nodup_cons.mpr ⟨by simp [q1, q2], nd⟩) fun u hu => by
      rcases List.mem_cons.mp hu with rfl | hu
      · exact List.mem_range.mpr hv
      · exact sub u hu
    rw [List.length_range, List.length_cons, List.length_cons] at this
    omega
theorem spread_size (near : Array (List Nat)) : ∀ (n : Nat) (todo : List Nat) (seen : Array Bool), (spread near n todo seen).size = seen.size
  | 0, _, _ => rfl
  | n + 1, [], _ => rfl
  | n + 1, k :: r, seen => by
    rw [spread_step, spread_size near n]
    have fo : ∀ (l : List Nat) (a : List Nat × Array Bool), (l.foldl stp a).2.size = a.2.size := by
      intro l
      induction l with
      | nil => intro a; rfl
      | cons j l ih =>
        intro a
        rw [List.foldl_cons, ih]
        unfold stp
        split
        · rfl
        · exact Array.size_setIfInBounds
    exact fo _ _
section
variable {P : Program} {w : World} {K : PySem.W.Frag} {mg : Str → Option Value} {base : Heap}
abbrev PreW : Plan → Prop := fun S => Pre5 S ∧ 4 ≤ S.pts.length
def fWays (S : Plan) : Option GlaBase.Fault := andThen (f8 S) (andThen (f9 S) (f10 S))
theorem ev_int1 {σ : L2.St} {H : Hp} {ta : TE} {b : Bool} (ha : Ev ta σ H (.bl b)) : Ev (tCB (fun xs H Q => (∃ i, xs = [V.int i] ∧ Q (.int i) H) ∨ ∃ k, xs = [V.bl k] ∧ Q (.int (if k then 1 else 0)) H) (tCons ta tNil)) σ H (.int (if b then 1 else 0)) := fun H1 e Q q =>
  ha H1 e _ fun H2 e2 => .inr ⟨b, rfl, q H2 e2⟩
theorem ok_check_ways (T : Txt K mg) : FnOk P w K mg base (L2.CX P w) 4 T.check_ways.f T.check_ways.fd ["drawing"] (spChk K T.Drawing.C T.x_NoCartoon.C PreW fun S _ => fWays S) := by
  refine T.check_ways.F.okX sc_check_ways (fun vs H Q E h => ?_) (fun cdv A outer s H vs Q E hr h => ?_)
  · obtain ⟨a, sz, S, rfl, _⟩ := h
    rfl
  · refine ⟨_, (pss_cons (ps_set (i := 1) sc_check_ways.nd rfl (.inl rfl) (pe_call (ok_neighbours_of T) (hr.mono (by decide)) rfl T.neighbours_of.g T.neighbours_of.F.kp T.neighbours_of.b .nil pass0 (pa_cons (pv 0) pa_nil)))
    (pss_cons (ps_for (passes_of rfl) rfl (pi_range1 rfl T.n_range (pa_cons (pe_callB call_len_seq (by rfl) T.n_len PySem.boot_len (pa_cons (pv 1) pa_nil)) pa_nil)) (pg_name (i := 2) sc_check_ways.nd rfl (Or.inl rfl)) (pss_one (ps_expr (pe_call (ok_ask T) (hr.mono (by decide)) rfl T.ask.g T.ask.F.kp T.ask.b .nil (passes_call (takes_of rfl rfl rfl rfl) (fun _ _ _ _ h => h)) (pa_cons (pe_cmpR op_ge (pe_callB call_len_seq (by rfl) T.n_len PySem.boot_len (pa_cons (pe_ix ix_list (pv 1) (pv 2) (fun _ _ => rfl)) pa_nil)) pe_int (nomark _)) (pa_cons pe_int (pa_cons (pe_meth (pv 0) T.Drawing.cl T.Drawing.point_place.m (ok_Drawing_point_place T) (hr.mono (by decide)) T.Drawing.point_place.b .nil pass0 (pa_cons (pv 2) pa_nil)) pa_nil)))))))
    (pss_cons (ps_set (i := 3) sc_check_ways.nd rfl (.inl rfl) (pe_call (ok_reached T) (hr.mono (by decide)) rfl T.reached.g T.reached.F.kp T.reached.b .nil pass0 (pa_cons (pv 1) (pa_cons pe_int (pa_cons (pe_un un_neg pe_int) pa_nil)))))
    (pss_cons (ps_for (passes_of rfl) rfl (pi_range1 rfl T.n_range (pa_cons (pe_callB call_len_seq (by rfl) T.n_len PySem.boot_len (pa_cons (pv 1) pa_nil)) pa_nil)) (pg_name (i := 2) sc_check_ways.nd rfl (Or.inl rfl)) (pss_one (ps_expr (pe_call (ok_ask T) (hr.mono (by decide)) rfl T.ask.g T.ask.F.kp T.ask.b .nil (passes_call (takes_of rfl rfl rfl rfl) (fun _ _ _ _ h => h)) (pa_cons (pe_cmp (pc_din (hu_of hr) (pv 2) (pv 3))) (pa_cons pe_int (pa_cons (pe_meth (pv 0) T.Drawing.cl T.Drawing.point_place.m (ok_Drawing_point_place T) (hr.mono (by decide)) T.Drawing.point_place.b .nil pass0 (pa_cons (pv 2) pa_nil)) pa_nil)))))))
    (pss_one (ps_for (passes_of rfl) rfl (pi_range1 rfl T.n_range (pa_cons (pe_callB call_len_seq (by rfl) T.n_len PySem.boot_len (pa_cons (pv 1) pa_nil)) pa_nil)) (pg_name (i := 2) sc_check_ways.nd rfl (Or.inl rfl)) (pss_cons (ps_set (i := 3) sc_check_ways.nd rfl (.inl rfl) (pe_call (ok_reached T) (hr.mono (by decide)) rfl T.reached.g T.reached.F.kp T.reached.b .nil pass0 (pa_cons (pv 1) (pa_cons (pe_callTy call_int1 (by rfl) T.n_int (by decide +kernel) (pa_cons (pe_cmpR op_eq (pv 2) pe_int (nomark _)) pa_nil)) (pa_cons (pv 2) pa_nil)))))
    (pss_one (ps_expr (pe_call (ok_ask T) (hr.mono (by decide)) rfl T.ask.g T.ask.F.kp T.ask.b .nil (passes_call (takes_of rfl rfl rfl rfl) (fun _ _ _ _ h => h)) (pa_cons (pe_cmpR op_eq (pe_callB call_lenD (by rfl) T.n_len PySem.boot_len (pa_cons (pv 3) pa_nil)) (pe_op op_sub (pe_callB call_len_seq (by rfl) T.n_len PySem.boot_len (pa_cons (pv 1) pa_nil)) pe_int) (nomark _)) (pa_cons pe_int (pa_cons (pe_meth (pv 0) T.Drawing.cl T.Drawing.point_place.m (ok_Drawing_point_place T) (hr.mono (by decide)) T.Drawing.point_place.b .nil pass0 (pa_cons (pv 2) pa_nil)) pa_nil))))))))))))), ?_⟩
    obtain ⟨a, sz, S, rfl, hD, ⟨hP, n4⟩, ⟨kE, kO⟩⟩ := h
    have ct := hD.ct
    have hD0 := hD
    obtain ⟨dx, c, l1, l2, l3, D⟩ := hD
    have n5 := hP.t.1
    refine ⟨_, rfl, a, sz, S, rfl, hD0, hP, fun p H1 np e1 hL => ?_⟩
    obtain ⟨es, q1, q2, q3⟩ := id hL
    have nl : (nbr S).length = S.pts.length := by unfold nbr; rw [List.length_map, List.length_range]
    have el : (es.map V.ref).length = S.pts.length := by rw [List.length_map, q2, nl]
    -- rule 8
    refine q_forR1 (n := ((es.map V.ref).length : Int)) (ea_cons (ev_lenL (ev_var rfl) q1) ea_nil) (by rw [el]; omega)
      (fun i σ' H' => Ex H1 H' ∧ (∀ j, j < i → decide ((S.near j).length < 2) = false) ∧ ∃ v1 v2, σ' = [some (.ref a), some (.ref p), v1, v2]) (fun H4 e4 => ⟨e4, fun j hj => by omega, _, _, rfl⟩) ?_ ?_
    · rintro i σ' H' hi ⟨e, hb, v1, v2, rfl⟩
      rw [el] at hi
      have lt : i < S.pts.length := by omega
      have xr : (es.map V.ref)[i]? = some (.ref (es[i]'(by omega))) := by rw [List.getElem?_map, List.getElem?_eq_getElem (by omega)]; rfl
      have hrow : SqL K H1 (es[i]'(by omega)) (((S.near i).map fun (n : Nat) => (n : Int)).map V.int) := q3 i _ _ (List.getElem?_eq_getElem _) (nbr_at lt)
      generalize es[i]'(by omega) = row at xr hrow
      have ee := e1.trans e
      refine x_ask (ea_cons (ev_op (ev_lenL (ev_op (ev_var rfl) (ev_var rfl) (rv_ixL (ex_l e q1) (at_of rfl xr))) (ex_l e hrow)) ev_c rv_I0) (ea_cons ev_c (ea_cons (ev_meth (ev_var rfl) (ee _ _ D.ob) dF_no (ea_cons (ev_var rfl) ea_nil) (spv_pl (ct.mono ee) rfl)) ea_nil))) (fun tb => ?_) (fun tb H4 e4 => ⟨e.trans e4, fun j hj => ?_, _, _, rfl⟩)
      · rw [List.length_map, List.length_map] at tb
        have tb := of_decide_eq_false tb
        have ff : (List.range S.pts.length).find? (fun (i : Nat) => decide ((S.near i).length < 2)) = some i := rangeFind_some lt (decide_eq_true (by omega)) hb
        exact (kE ⟨8, ptPlace i⟩ (by show fWays S = _; unfold fWays f8; rw [ff]; rfl)).mono ee
      · by_cases c : j < i
        · exact hb j c
        · have : j = i := by omega
          subst this
          rw [List.length_map, List.length_map] at tb
          have tb := of_decide_eq_true tb
          exact decide_eq_false (by omega)
    · rintro σ' H2 ⟨e2, hb, v1, v2, rfl⟩
      rw [el] at hb
      have z8 : f8 S = none := by
        unfold f8
        rw [rangeFind_none fun j hj => hb j (by omega)]
        rfl
      have w8 : fWays S = andThen (f9 S) (f10 S) := by
        unfold fWays
        rw [z8]
        rfl
      -- rule 9
      refine ⟨_, rfl, 1, rfl, p, S, 0, -1, noneSeen S.pts.length, rfl, hL.mono e2, hP, by omega, by decide, RR.none _, fun d H3 ks e3 nd hd hR => ?_⟩
      have e23 := e2.trans e3
      refine q_forR1 (n := ((es.map V.ref).length : Int)) (ea_cons (ev_lenL (ev_var rfl) (ex_l e23 q1)) ea_nil) (by rw [el]; omega)
        (fun i σ' H' => Ex H3 H' ∧ (∀ j, j < i → (!((seenFrom S.nears S.pts.length 0 (noneSeen S.pts.length)).getD j false)) = false) ∧ ∃ v1, σ' = [some (.ref a), some (.ref p), v1, some (.ref d)]) (fun H4 e4 => ⟨e4, fun j hj => by omega, _, rfl⟩) ?_ ?_
      · rintro i σ' H' hi ⟨e, hb, v1, rfl⟩
        rw [el] at hi
        have lt : i < S.pts.length := by omega
        have ee := (e1.trans e23).trans e
        have sv : (seenFrom S.nears S.pts.length 0 (noneSeen S.pts.length)).getD i false = decide (i ∈ ks) := by
          rw [getD_any (e := true) (by rw [hR.size]; exact lt), Bool.eq_iff_iff, hR.iff i lt, decide_eq_true_eq]
          constructor
          · rintro (z | z)
            · exact z
            · omega
          · exact .inl
        refine x_ask (ea_cons (ev_din (ev_var rfl) (ev_var rfl) (e _ _ hd)) (ea_cons ev_c (ea_cons (ev_meth (ev_var rfl) (ee _ _ D.ob) dF_no (ea_cons (ev_var rfl) ea_nil) (spv_pl (ct.mono ee) rfl)) ea_nil))) (fun tb => ?_) (fun tb H4 e4 => ⟨e.trans e4, fun j hj => ?_, _, rfl⟩)
        · rw [kd_val] at tb
          have ff : (List.range S.pts.length).find? (fun (i : Nat) => !((seenFrom S.nears S.pts.length 0 (noneSeen S.pts.length)).getD i false)) = some i := rangeFind_some lt (by rw [sv, tb]; rfl) hb
          exact (kE ⟨9, ptPlace i⟩ (by show fWays S = _; rw [w8]; unfold f9; rw [ff]; rfl)).mono ee
        · by_cases c : j < i
          · exact hb j c
          · have : j = i := by omega
            subst this
            rw [kd_val] at tb
            rw [sv, tb]
            rfl
      · rintro σ' H4 ⟨e4, hb, v1, rfl⟩
        rw [el] at hb
        have z9 : f9 S = none := by
          unfold f9
          rw [rangeFind_none fun j hj => hb j (by omega)]
          rfl
        have w9 : fWays S = f10 S := by
          rw [w8, z9]
          rfl
        -- rule 10
        have e24 := e23.trans e4
        refine s_forR1 (n := ((es.map V.ref).length : Int)) (ea_cons (ev_lenL (ev_var rfl) (ex_l e24 q1)) ea_nil) (by rw [el]; omega)
          (fun i σ' H' => Ex H4 H' ∧ (∀ j, j < i → cuts S.nears S.pts.length j = false) ∧ ∃ v1 v2, σ' = [some (.ref a), some (.ref p), v1, v2]) (fun H5 e5 => ⟨e5, fun j hj => by omega, _, _, rfl⟩) ?_ ?_
        · rintro i σ' H5 hi ⟨e, hb, v1, v2, rfl⟩
          rw [el] at hi
          have lt : i < S.pts.length := by omega
          have e25 := e24.trans e
          have eI : (if decide (V.int ((i : Nat) : Int) = V.int 0) = true then (1 : Int) else 0) = (((if i = 0 then 1 else 0 : Nat)) : Int) := by
            by_cases c : i = 0
            · subst c; rfl
            · have : ¬ V.int ((i : Nat) : Int) = V.int 0 := by
                intro z
                have := V.int.inj z
                omega
              rw [decide_eq_false this, if_neg c]
              rfl
          have arg := ev_int1 (σ := [some (V.ref a), some (.ref p), some (.int ((i : Nat) : Int)), v2]) (H := H5) (ev_op (r := rEq) (ta := tVar 2) (tb := tC (.int 0)) (ev_var rfl) ev_c (rv_eq rfl))
          refine ⟨_, rfl, arg H5 (Ex.refl H5) _ fun H6 e6 => ?_⟩
          refine ⟨_, rfl, p, S, if i = 0 then 1 else 0, (i : Int), (noneSeen S.pts.length).setIfInBounds i true, congrArg (fun z => [V.ref p, V.int z, V.int ((i : Nat) : Int)]) eI, hL.mono (e25.trans e6), hP, by split <;> omega, by split <;> omega, RR.one _ _ lt, fun d2 H7 ks2 e7 nd2 hd2 hR2 => ?_⟩
          have ee := (e1.trans (e25.trans e6)).trans e7
          have al := hR2.all lt
          have cut : cuts S.nears S.pts.length i = !decide (ks2.length + 1 = S.pts.length) := by
            unfold cuts
            by_cases z : ks2.length + 1 = S.pts.length
            · rw [al.mpr z, decide_eq_true z]
              rfl
            · rw [decide_eq_false z, Bool.not_false, ← Bool.not_eq_false]
              exact fun y => z (al.mp y)
          have kl : (kd ks2).length = ks2.length := by unfold kd; rw [List.length_map]
          have pz : decide (((kd ks2).length : Int) = ((es.map V.ref).length : Int) - 1) = decide (ks2.length + 1 = S.pts.length) := by
            rw [kl, el]
            congr 1
            rw [eq_iff_iff]
            omega
          refine x_ask (ea_cons (ev_is (ev_op (ev_lenD (ev_var rfl) hd2) (ev_op (ev_lenL (ev_var rfl) (ex_l ((e25.trans e6).trans e7) q1)) ev_c rv_I0) rv_eqI) (congrArg V.bl pz)) (ea_cons ev_c (ea_cons (ev_meth (ev_var rfl) (ee _ _ D.ob) dF_no (ea_cons (ev_var rfl) ea_nil) (spv_pl (ct.mono ee) rfl)) ea_nil))) (fun tb => ?_) (fun tb H8 e8 => ⟨((e.trans e6).trans e7).trans e8, fun j hj => ?_, _, _, rfl⟩)
          · have ff : (List.range S.pts.length).find? (cuts S.nears S.pts.length) = some i := rangeFind_some lt (by rw [cut, tb]; rfl) hb
            exact (kE ⟨10, ptPlace i⟩ (by show fWays S = _; rw [w9]; unfold f10; rw [ff]; rfl)).mono ee
          · by_cases c : j < i
            · exact hb j c
            · have : j = i := by omega
              subst this
              rw [cut, tb]
              rfl
        · rintro σ' H5 ⟨e, hb, v1, v2, rfl⟩
          rw [el] at hb
          refine kO ?_ H5 (e1.trans (e24.trans e))
          show fWays S = none
          rw [w9]
          unfold f10
          rw [rangeFind_none fun j hj => hb j (by omega)]
          rfl
/-- the rules 4 to 10 -/
def fDraw (S : Plan) : Option GlaBase.Fault := andThen (f4 S) (andThen (f5 S) (andThen (f6 S) (andThen (f7 S) (fWays S))))
abbrev PreD : Plan → Prop := fun S => tru S ∧ (S.w ≤ 1048575 ∧ S.h ≤ 1048575) ∧ 4 ≤ S.pts.length
/-- a check called as a statement -/
theorem y_chk {σ : L2.St} {H : Hp} {D : Ends} {tz : TS} {C CN a : Addr} {E : XK} {sz : Nat} {S : Plan} {pre : Plan → Prop} {F : Plan → Nat → Option GlaBase.Fault} {i : Nat} (ha : σ[i]? = some (some (.ref a))) (hD : Dw K C H a sz S) (hp : pre S) (h1 : ∀ f, F S sz = some f → ExcP CN (noF f.rule f.place) H E)
    (h2 : F S sz = none → ∀ H1, Ex H H1 → tz D σ H1) : tSeq (tDrop (tCall (spChk K C CN pre F) [] E (tCons (tVar i) tNil))) tz D σ H := ⟨_, ha, a, sz, S, rfl, hD, hp, h1, h2⟩
theorem x_chk {σ : L2.St} {H : Hp} {D : Ends} {C CN a : Addr} {E : XK} {sz : Nat} {S : Plan} {pre : Plan → Prop} {F : Plan → Nat → Option GlaBase.Fault} {i : Nat} (ha : σ[i]? = some (some (.ref a))) (hD : Dw K C H a sz S) (hp : pre S) (h1 : ∀ f, F S sz = some f → ExcP CN (noF f.rule f.place) H E)
    (h2 : F S sz = none → ∀ H1, Ex H H1 → D.nx σ H1) : tDrop (tCall (spChk K C CN pre F) [] E (tCons (tVar i) tNil)) D σ H := ⟨_, ha, a, sz, S, rfl, hD, hp, h1, h2⟩
theorem ok_check_drawing (T : Txt K mg) : FnOk P w K mg base (L2.CX P w) 5 T.check_drawing.f T.check_drawing.fd ["drawing"] (spChk K T.Drawing.C T.x_NoCartoon.C PreD fun S _ => fDraw S) := by
  refine T.check_drawing.F.okX sc_check_drawing (fun vs H Q E h => ?_) (fun cdv A outer s H vs Q E hr h => ?_)
  · obtain ⟨a, sz, S, rfl, _⟩ := h
    rfl
  · refine ⟨_, (pss_cons (ps_expr (pe_call (ok_check_points T) (hr.mono (by decide)) rfl T.check_points.g T.check_points.F.kp T.check_points.b .nil (passes_call (takes_of rfl rfl rfl rfl) (fun _ _ _ _ h => h)) (pa_cons (pv 0) pa_nil)))
    (pss_cons (ps_expr (pe_call (ok_check_lines T) (hr.mono (by decide)) rfl T.check_lines.g T.check_lines.F.kp T.check_lines.b .nil (passes_call (takes_of rfl rfl rfl rfl) (fun _ _ _ _ h => h)) (pa_cons (pv 0) pa_nil)))
    (pss_cons (ps_expr (pe_call (ok_check_frame T) (hr.mono (by decide)) rfl T.check_frame.g T.check_frame.F.kp T.check_frame.b .nil (passes_call (takes_of rfl rfl rfl rfl) (fun _ _ _ _ h => h)) (pa_cons (pv 0) pa_nil)))
    (pss_cons (ps_expr (pe_call (ok_check_crossings T) (hr.mono (by decide)) rfl T.check_crossings.g T.check_crossings.F.kp T.check_crossings.b .nil (passes_call (takes_of rfl rfl rfl rfl) (fun _ _ _ _ h => h)) (pa_cons (pv 0) pa_nil)))
    (pss_one (ps_expr (pe_call (ok_check_ways T) (hr.mono (by decide)) rfl T.check_ways.g T.check_ways.F.kp T.check_ways.b .nil (passes_call (takes_of rfl rfl rfl rfl) (fun _ _ _ _ h => h)) (pa_cons (pv 0) pa_nil)))))))), ?_⟩
    obtain ⟨a, sz, S, rfl, hD, ⟨ht, ⟨hw, hh⟩, n4⟩, ⟨kE0, kO0⟩⟩ := h
    have kE : ∀ f, fDraw S = some f → ExcP T.x_NoCartoon.C (noF f.rule f.place) H E := kE0
    have kO : fDraw S = none → RetV .non H Q := kO0
    unfold fDraw at kE kO
    refine y_chk rfl hD ht (fun f hf => kE f (by rw [show f4 S = some f from hf]; rfl)) fun z4 H1 e1 => ?_
    have z4 : f4 S = none := z4
    rw [z4] at kE kO
    refine y_chk rfl (hD.mono e1) ht (fun f hf => (kE f (by rw [show f5 S = some f from hf]; rfl)).mono e1) fun z5 H2 e2 => ?_
    have z5 : f5 S = none := z5
    rw [z5] at kE kO
    have e2 := e1.trans e2
    have P5 : Pre5 S := ⟨ht, hw, hh, z4, z5⟩
    refine y_chk rfl (hD.mono e2) ht (fun f hf => (kE f (by rw [show f6 S = some f from hf]; rfl)).mono e2) fun z6 H3 e3 => ?_
    have z6 : f6 S = none := z6
    rw [z6] at kE kO
    have e3 := e2.trans e3
    refine y_chk rfl (hD.mono e3) P5 (fun f hf => (kE f (by rw [show f7 S = some f from hf]; rfl)).mono e3) fun z7 H4 e4 => ?_
    have z7 : f7 S = none := z7
    rw [z7] at kE kO
    have e4 := e3.trans e4
    exact x_chk rfl (hD.mono e4) ⟨P5, n4⟩ (fun f hf => (kE f (by rw [show fWays S = some f from hf]; rfl)).mono e4) fun z8 H5 e5 => kO z8 H5 (e4.trans e5)
end
end Lead
namespace Lead
open PySem PySem.Spec PyProof.Rows L2 Evl LeadT
open GlaPlan
/-! ### the next way of an outline, as the program finds it -/
def halfP (r d : Z2) : Int := if crs r d < 0 then 0 else if crs r d = 0 then 1 else 2
def soonP (r a b : Z2) : Bool := if halfP r a ≠ halfP r b then decide (halfP r a < halfP r b) else decide (crs a b < 0)
def nextStep (S : Plan) (u v best w : Nat) : Nat := if w ≠ u ∧ (best = u ∨ soonP (dir S v u) (dir S v w) (dir S v best) = true) then w else best
def nextP (S : Plan) (u v : Nat) : Nat := (S.near v).foldl (nextStep S u v) u
theorem half_spec (O : Good S) {v u a : Nat} (hu : Geo.adj (geoOf S) v u) (ha : Geo.adj (geoOf S) v a) (ne : a ≠ u) : ((GlaPlan.half (dir S v u) (dir S v a) : Nat) : Int) = halfP (dir S v u) (dir S v a) := by
  have hc : (dir S v u).1 * (dir S v a).2 - (dir S v u).2 * (dir S v a).1 = crs (dir S v u) (dir S v a) := rfl
  unfold GlaPlan.half halfP
  dsimp only
  rw [hc]
  by_cases c1 : crs (dir S v u) (dir S v a) < 0
  · rw [if_pos c1, if_pos c1]
    rfl
  · rw [if_neg c1, if_neg c1]
    by_cases c2 : 0 < crs (dir S v u) (dir S v a)
    · rw [if_pos c2, if_neg (by omega)]
      rfl
    · rw [if_neg c2, if_pos (O.back hu ha ne (by omega)).1, if_pos (by omega)]
      rfl
theorem half_self (S : Plan) (v u : Nat) : GlaPlan.half (dir S v u) (dir S v u) = 3 := by
  unfold GlaPlan.half
  have c0 : (dir S v u).1 * (dir S v u).2 - (dir S v u).2 * (dir S v u).1 = 0 := by grind
  dsimp only
  rw [c0, if_neg (by decide), if_neg (by decide), if_neg]
  have n1 : 0 ≤ (dir S v u).1 * (dir S v u).1 := by
    rcases Int.le_total 0 (dir S v u).1 with q | q
    · exact Int.mul_nonneg q q
    · have := Int.mul_nonneg (a := -(dir S v u).1) (b := -(dir S v u).1) (by omega) (by omega)
      grind
  have n2 : 0 ≤ (dir S v u).2 * (dir S v u).2 := by
    rcases Int.le_total 0 (dir S v u).2 with q | q
    · exact Int.mul_nonneg q q
    · have := Int.mul_nonneg (a := -(dir S v u).2) (b := -(dir S v u).2) (by omega) (by omega)
      grind
  omega
theorem half_lt {S : Plan} (O : Good S) {v u a : Nat} (hu : Geo.adj (geoOf S) v u) (ha : Geo.adj (geoOf S) v a) (ne : a ≠ u) : GlaPlan.half (dir S v u) (dir S v a) < 3 := by
  have := half_spec O hu ha ne
  unfold halfP at this
  repeat' split at this
  all_goals omega
theorem soon_spec {S : Plan} (O : Good S) {v u a b : Nat} (hu : Geo.adj (geoOf S) v u) (ha : Geo.adj (geoOf S) v a) (hb : Geo.adj (geoOf S) v b) (na : a ≠ u) (nb : b ≠ u) : sooner (dir S v u) (dir S v a) (dir S v b) = soonP (dir S v u) (dir S v a) (dir S v b) := by
  have h1 := half_spec O hu ha na
  have h2 := half_spec O hu hb nb
  unfold sooner soonP
  rw [← h1, ← h2]
  show (decide _ || (_ && decide (crs (dir S v a) (dir S v b) < 0))) = _
  by_cases c : GlaPlan.half (dir S v u) (dir S v a) = GlaPlan.half (dir S v u) (dir S v b)
  · rw [c, if_neg (by omega)]
    simp
  · rw [if_pos (by omega)]
    have : (GlaPlan.half (dir S v u) (dir S v a) == GlaPlan.half (dir S v u) (dir S v b)) = false := by simpa using c
    rw [this]
    simp
theorem next_eq {S : Plan} (O : Good S) {v u : Nat} (hu : Geo.adj (geoOf S) v u) : nextP S u v = S.next u v := by
  have hm := near_mem.mpr hu
  have key : ∀ (l : List Nat) (best : Nat), (∀ x ∈ l, Geo.adj (geoOf S) v x) → Geo.adj (geoOf S) v best →
      l.foldl (nextStep S u v) best = l.foldl (fun a b => if sooner (dir S v u) (dir S v b) (dir S v a) = true then b else a) best := by
    intro l
    induction l with
    | nil => intro best _ _; rfl
    | cons x l ih =>
      intro best hl hb
      have hx := hl x (by simp)
      have st : nextStep S u v best x = if sooner (dir S v u) (dir S v x) (dir S v best) = true then x else best := by
        unfold nextStep
        by_cases cx : x = u
        · subst cx
          rw [if_neg (fun z => z.1 rfl)]
          by_cases cb : best = x
          · subst cb
            split <;> rfl
          · rw [if_neg]
            have h1 := half_self S v x
            have h2 := half_lt O hx hb cb
            unfold sooner
            rw [h1]
            have e : ((3 : Nat) == GlaPlan.half (dir S v x) (dir S v best)) = false := by
              rw [beq_eq_false_iff_ne]
              omega
            rw [e, decide_eq_false (by omega)]
            simp
        · by_cases cb : best = u
          · subst cb
            rw [if_pos ⟨cx, .inl rfl⟩, if_pos]
            have h1 := half_self S v best
            have h2 := half_lt O hb hx cx
            unfold sooner
            rw [h1, decide_eq_true (by omega)]
            rfl
          · rw [soon_spec O hu hx hb cx cb]
            by_cases c : soonP (dir S v u) (dir S v x) (dir S v best) = true
            · rw [if_pos ⟨cx, .inr c⟩, if_pos c]
            · rw [if_neg (fun z => by rcases z.2 with q | q; exact cb q; exact c q), if_neg c]
      rw [List.foldl_cons, List.foldl_cons, st]
      refine ih _ (fun y hy => hl y (by simp [hy])) ?_
      split
      · exact hx
      · exact hb
  unfold nextP Plan.next
  cases e : S.near v with
  | nil => rw [e] at hm; cases hm
  | cons k r =>
    have hk : Geo.adj (geoOf S) v k := near_mem.mp (by rw [e]; simp)
    rw [List.foldl_cons]
    have s1 : nextStep S u v u k = k := by
      unfold nextStep
      by_cases c : k = u
      · subst c
        rw [if_neg (fun z => z.1 rfl)]
      · rw [if_pos ⟨c, .inl rfl⟩]
    rw [s1]
    exact key r k (fun x hx => near_mem.mp (by rw [e]; simp [hx])) hk
/-- what stands behind the rules 4 to 10 -/
structure Pre10 (S : Plan) : Prop where
  p : Pre5 S
  n4 : 4 ≤ S.pts.length
  g : Good S
theorem pre10_of {S : Plan} (h : PreD S) (f : fDraw S = none) : Pre10 S := by
  unfold fDraw fWays andThen at f
  cases z4 : f4 S with
  | some _ => rw [z4] at f; cases f
  | none =>
    rw [z4] at f
    cases z5 : f5 S with
    | some _ => rw [z5] at f; cases f
    | none =>
      rw [z5] at f
      cases z6 : f6 S with
      | some _ => rw [z6] at f; cases f
      | none =>
        rw [z6] at f
        cases z7 : f7 S with
        | some _ => rw [z7] at f; cases f
        | none =>
          rw [z7] at f
          cases z8 : f8 S with
          | some _ => rw [z8] at f; cases f
          | none =>
            rw [z8] at f
            cases z9 : f9 S with
            | some _ => rw [z9] at f; cases f
            | none =>
              rw [z9] at f
              have z10 : f10 S = none := f
              refine ⟨⟨h.1, h.2.1.1, h.2.1.2, z4, z5⟩, h.2.2, ?_⟩
              unfold f4 at z4
              unfold f5 at z5
              unfold f6 at z6
              unfold f7 at z7
              unfold f8 at z8
              unfold f9 at z9
              unfold f10 at z10
              rw [Option.map_eq_none_iff] at z4 z5 z7 z8 z9 z10
              refine ⟨z4, z5, ?_, z7, z8, z9, z10⟩
              by_cases c : frameOk S = false
              · rw [if_pos c] at z6
                cases z6
              · simpa using c
/-- a fresh point -/
def SpU (sp : Sp) (vs : List V) (H : Hp) (p : Z2) : Prop := ∀ H1, Ex H H1 → ∀ Q : VK, (∀ t H2, H1 t = none → Ex H1 H2 → H2 t = some (.tup (vz p)) → Q (.ref t) H2) → ∀ E : XK, sp vs H1 Q E
section
variable {K : PySem.W.Frag} {σ : L2.St} {H H' : Hp} {ta tb tc te : TE} {D : Ends} {tu tz : TS} {a l : Addr} {x z : V} {sp : Sp} {E : XK}
theorem eu_call {t : TA} {vs : List V} {p : Z2} (h : EvA t σ H vs) (hs : SpU sp vs H p) : EvU (tCall sp [] E t) σ H (vz p) := fun H1 e Q q =>
  h H1 e _ fun H2 e2 => by
    rw [List.append_nil]
    exact hs H2 (e.trans e2) Q (fun t H3 ht e3 h3 => q t H3 (fresh_back e2 ht) (e2.trans e3) h3) E
theorem ev_callVUU {p q : Z2} (ha : Ev ta σ H x) (hb : EvU tb σ H (vz p)) (hc : EvU tc σ H (vz q)) (hs : ∀ t1 t2 H1, Ex H H1 → P2 K H1 t1 p → P2 K H1 t2 q → SpV sp [x, .ref t1, .ref t2] H1 z) : Ev (tCall sp [] E (tCons ta (tCons tb (tCons tc tNil)))) σ H z := fun H1 e Q k =>
  ha H1 e _ fun H2 e2 => hb H2 (e.trans e2) _ fun t1 H3 _ e3 h3 => hc H3 ((e.trans e2).trans e3) _ fun t2 H4 _ e4 h4 =>
    hs t1 t2 H4 (((e.trans e2).trans e3).trans e4) (P2.of (e4 _ _ h3)) (P2.of h4) H4 (Ex.refl H4) Q (fun H5 e5 => k H5 (((e2.trans e3).trans e4).trans e5)) E
end
section
variable {P : Program} {w : World} {K : PySem.W.Frag} {mg : Str → Option Value} {base : Heap}
def spAway (K : PySem.W.Frag) (C : Addr) : Sp := fun vs H Q _ => ∃ (a : Addr) (sz : Nat) (S : Plan) (v u : Nat), vs = [.ref a, .int (v : Int), .int (u : Int)] ∧ Dw K C H a sz S ∧ v < S.pts.length ∧ u < S.pts.length ∧ ∀ t H2, H t = none → Ex H H2 → H2 t = some (.tup (vz (dir S v u))) → Q (.ref t) H2
theorem ok_away (T : Txt K mg) : FnOk P w K mg base CX0 1 T.away.f T.away.fd ["drawing", "v", "u"] (spAway K T.Drawing.C) := by
  refine T.away.F.ok sc_away (fun vs H Q E h => ?_) (fun cdv A outer s H vs Q E hr h => ?_)
  · obtain ⟨a, sz, S, v, u, rfl, _⟩ := h
    rfl
  · refine ⟨_, (pss_cons (ps_set (i := 3) sc_away.nd rfl (.inl rfl) (pe_ix ix_list (pe_fld (pv 0) rfl) (pv 2) (fun _ _ => rfl)))
    (pss_cons (ps_set (i := 4) sc_away.nd rfl (.inl rfl) (pe_ix ix_list (pe_fld (pv 0) rfl) (pv 1) (fun _ _ => rfl)))
    (pss_one (ps_ret (pe_tup (pa_cons (pe_op op_sub (pe_ix ix_tup (pv 3) pe_int (fun _ _ => rfl)) (pe_ix ix_tup (pv 4) pe_int (fun _ _ => rfl))) (pa_cons (pe_op op_sub (pe_ix ix_tup (pv 3) pe_int (fun _ _ => rfl)) (pe_ix ix_tup (pv 4) pe_int (fun _ _ => rfl))) pa_nil))))))), ?_⟩
    obtain ⟨a, sz, S, v, u, rfl, hD, hv, hu, k⟩ := h
    obtain ⟨dx, c, l1, l2, l3, D⟩ := hD
    have cl := T.Drawing.cl
    obtain ⟨p, hp, evp⟩ := ev_dpt (σ := [some (.ref a), some (.int (v : Int)), some (.int (u : Int)), none, none]) (ta := tVar 0) (tb := tVar 2) D cl T.Drawing.na_points (ev_var rfl) (ev_var rfl) rfl hu
    refine q_asg evp fun H1 e1 => ?_
    obtain ⟨q, hq, evq⟩ := ev_dpt (σ := [some (.ref a), some (.int (v : Int)), some (.int (u : Int)), some (.ref p), none]) (ta := tVar 0) (tb := tVar 1) (D.mono e1) cl T.Drawing.na_points (ev_var rfl) (ev_var rfl) rfl hv
    refine q_asg evq fun H2 e2 => ?_
    have hp := (hp.mono e1).mono e2
    have hq := hq.mono e2
    refine s_retU (eu_tup (ea_cons (ev_op (ev_p0 (ev_var rfl) hp) (ev_p0 (ev_var rfl) hq) rv_I0) (ea_cons (ev_op (ev_p1 (ev_var rfl) hp) (ev_p1 (ev_var rfl) hq) rv_I0) ea_nil)) (by show 2 ≤ 100000; decide)) fun t H3 ht e3 h3 => k t H3 (fresh_back (e1.trans e2) ht) ((e1.trans e2).trans e3) h3
theorem spu_away {C : Addr} {H : Hp} {a : Addr} {sz : Nat} {S : Plan} {v u : Nat} (D : Dw K C H a sz S) (hv : v < S.pts.length) (hu : u < S.pts.length) : SpU (spAway K C) [.ref a, .int (v : Int), .int (u : Int)] H (dir S v u) := fun H1 e Q q E => ⟨a, sz, S, v, u, rfl, D.mono e, hv, hu, q⟩
def spArea (K : PySem.W.Frag) : Sp := fun vs H Q _ => ∃ (a b : Addr) (p q : Z2), vs = [.ref a, .ref b] ∧ P2 K H a p ∧ P2 K H b q ∧ (sml p ∧ sml q) ∧ RetV (.int (crs p q)) H Q
theorem ok_area (T : Txt K mg) : FnOk P w K mg base CX0 1 T.area.f T.area.fd ["one", "other"] (spArea K) := by
  refine T.area.F.ok sc_area (fun vs H Q E h => ?_) (fun cdv A outer s H vs Q E hr h => ?_)
  · obtain ⟨a, b, p, q, rfl, _⟩ := h
    rfl
  · refine ⟨_, (pss_one (ps_ret (pe_op op_sub (pe_op op_mul (pe_ix ix_tup (pv 0) pe_int (fun _ _ => rfl)) (pe_ix ix_tup (pv 1) pe_int (fun _ _ => rfl))) (pe_op op_mul (pe_ix ix_tup (pv 0) pe_int (fun _ _ => rfl)) (pe_ix ix_tup (pv 1) pe_int (fun _ _ => rfl)))))), ?_⟩
    obtain ⟨a, b, p, q, rfl, hp, hq, ⟨⟨⟨p1, p2⟩, p3, p4⟩, ⟨⟨q1, q2⟩, q3, q4⟩⟩, k⟩ := h
    refine s_ret (v := .int (crs p q)) (ev_is ?_ rfl) fun H1 e => k H1 e
    (repeat' first | exact ev_c | exact ev_var rfl | exact ev_p0 (ev_var rfl) (by assumption) | exact ev_p1 (ev_var rfl) (by assumption) | refine ev_op ?_ ?_ rv_I0 | refine ev_op ?_ ?_ (rv_I ?_))
    all_goals exact .inl ⟨by omega, by omega⟩
theorem spv_area {H : Hp} {a b : Addr} {p q : Z2} (hp : P2 K H a p) (hq : P2 K H b q) (h : sml p ∧ sml q) : SpV (spArea K) [.ref a, .ref b] H (.int (crs p q)) := fun H1 e Q q' E => ⟨a, b, p, q, rfl, hp.mono e, hq.mono e, h, q'⟩
def spHalf (K : PySem.W.Frag) : Sp := fun vs H Q _ => ∃ (a b : Addr) (p q : Z2), vs = [.ref a, .ref b] ∧ P2 K H a p ∧ P2 K H b q ∧ (sml p ∧ sml q) ∧ RetV (.int (halfP p q)) H Q
theorem ok_half (T : Txt K mg) : FnOk P w K mg base CX0 2 T.half.f T.half.fd ["start", "way"] (spHalf K) := by
  refine T.half.F.ok sc_half (fun vs H Q E h => ?_) (fun cdv A outer s H vs Q E hr h => ?_)
  · obtain ⟨a, b, p, q, rfl, _⟩ := h
    rfl
  · refine ⟨_, (pss_cons (ps_set (i := 2) sc_half.nd rfl (.inl rfl) (pe_call (ok_area T) (hr.mono (by decide)) rfl T.area.g T.area.F.kp T.area.b .nil pass0 (pa_cons (pv 0) (pa_cons (pv 1) pa_nil))))
    (pss_cons (ps_if (pt_cmpR op_lt (pv 2) pe_int (nomark _)) (pss_one (ps_ret pe_int)) pss_nil)
    (pss_cons (ps_if (pt_cmpR op_eq (pv 2) pe_int (nomark _)) (pss_one (ps_ret pe_int)) pss_nil)
    (pss_one (ps_ret pe_int))))), ?_⟩
    obtain ⟨a, b, p, q, rfl, hp, hq, hb, k⟩ := h
    unfold halfP at k
    refine q_asg (ev_call (ea_cons (ev_var rfl) (ea_cons (ev_var rfl) ea_nil)) (spv_area hp hq hb)) fun H1 e1 => ?_
    refine q_when (et_test (ev_op (ev_var rfl) ev_c rv_I0)) (fun tb H2 e2 => ?_) (fun tb H2 e2 => ?_)
    · rw [if_pos (of_decide_eq_true tb)] at k
      exact s_ret ev_c fun H3 e3 => k H3 ((e1.trans e2).trans e3)
    · rw [if_neg (of_decide_eq_false tb)] at k
      refine q_when (et_test (ev_op (ev_var rfl) ev_c rv_eqI)) (fun tb H3 e3 => ?_) (fun tb H3 e3 => ?_)
      · rw [if_pos (of_decide_eq_true tb)] at k
        exact s_ret ev_c fun H4 e4 => k H4 (((e1.trans e2).trans e3).trans e4)
      · rw [if_neg (of_decide_eq_false tb)] at k
        exact s_ret ev_c fun H4 e4 => k H4 (((e1.trans e2).trans e3).trans e4)
theorem spv_half {H : Hp} {a b : Addr} {p q : Z2} (hp : P2 K H a p) (hq : P2 K H b q) (h : sml p ∧ sml q) : SpV (spHalf K) [.ref a, .ref b] H (.int (halfP p q)) := fun H1 e Q q' E => ⟨a, b, p, q, rfl, hp.mono e, hq.mono e, h, q'⟩
def spSoon (K : PySem.W.Frag) : Sp := fun vs H Q _ => ∃ (a b c : Addr) (p q r : Z2), vs = [.ref a, .ref b, .ref c] ∧ P2 K H a p ∧ P2 K H b q ∧ P2 K H c r ∧ (sml p ∧ sml q ∧ sml r) ∧ RetV (.bl (soonP p q r)) H Q
theorem ok_is_sooner (T : Txt K mg) : FnOk P w K mg base CX0 3 T.is_sooner.f T.is_sooner.fd ["start", "one", "other"] (spSoon K) := by
  refine T.is_sooner.F.ok sc_is_sooner (fun vs H Q E h => ?_) (fun cdv A outer s H vs Q E hr h => ?_)
  · obtain ⟨a, b, c, p, q, r, rfl, _⟩ := h
    rfl
  · refine ⟨_, (pss_cons (ps_if (pt_cmpR op_ne (pe_call (ok_half T) (hr.mono (by decide)) rfl T.half.g T.half.F.kp T.half.b .nil pass0 (pa_cons (pv 0) (pa_cons (pv 1) pa_nil))) (pe_call (ok_half T) (hr.mono (by decide)) rfl T.half.g T.half.F.kp T.half.b .nil pass0 (pa_cons (pv 0) (pa_cons (pv 2) pa_nil))) (nomark _)) (pss_one (ps_ret (pe_cmpR op_lt (pe_call (ok_half T) (hr.mono (by decide)) rfl T.half.g T.half.F.kp T.half.b .nil pass0 (pa_cons (pv 0) (pa_cons (pv 1) pa_nil))) (pe_call (ok_half T) (hr.mono (by decide)) rfl T.half.g T.half.F.kp T.half.b .nil pass0 (pa_cons (pv 0) (pa_cons (pv 2) pa_nil))) (nomark _)))) pss_nil)
    (pss_one (ps_ret (pe_cmpR op_lt (pe_call (ok_area T) (hr.mono (by decide)) rfl T.area.g T.area.F.kp T.area.b .nil pass0 (pa_cons (pv 1) (pa_cons (pv 2) pa_nil))) pe_int (nomark _))))), ?_⟩
    obtain ⟨a, b, c, p, q, r, rfl, hp, hq, hr', ⟨bp, bq, br⟩, k⟩ := h
    unfold soonP at k
    refine q_when (et_test (ev_op (ev_call (ea_cons (ev_var rfl) (ea_cons (ev_var rfl) ea_nil)) (spv_half hp hq ⟨bp, bq⟩)) (ev_call (ea_cons (ev_var rfl) (ea_cons (ev_var rfl) ea_nil)) (spv_half hp hr' ⟨bp, br⟩)) rv_neI)) (fun tb H1 e1 => ?_) (fun tb H1 e1 => ?_)
    · rw [if_pos (by simpa using tb)] at k
      exact s_ret (ev_op (ev_call (ea_cons (ev_var rfl) (ea_cons (ev_var rfl) ea_nil)) (spv_half (hp.mono e1) (hq.mono e1) ⟨bp, bq⟩)) (ev_call (ea_cons (ev_var rfl) (ea_cons (ev_var rfl) ea_nil)) (spv_half (hp.mono e1) (hr'.mono e1) ⟨bp, br⟩)) rv_I0) fun H2 e2 => k H2 (e1.trans e2)
    · rw [if_neg (by simpa using tb)] at k
      exact s_ret (ev_op (ev_call (ea_cons (ev_var rfl) (ea_cons (ev_var rfl) ea_nil)) (spv_area (hq.mono e1) (hr'.mono e1) ⟨bq, br⟩)) ev_c rv_I0) fun H2 e2 => k H2 (e1.trans e2)
theorem spv_soon {H : Hp} {a b c : Addr} {p q r : Z2} (hp : P2 K H a p) (hq : P2 K H b q) (hr : P2 K H c r) (h : sml p ∧ sml q ∧ sml r) : SpV (spSoon K) [.ref a, .ref b, .ref c] H (.bl (soonP p q r)) := fun H1 e Q q' E => ⟨a, b, c, p, q, r, rfl, hp.mono e, hq.mono e, hr.mono e, h, q'⟩
theorem sml_dir {S : Plan} (O : Pre5 S) {v u : Nat} (hv : v < S.pts.length) (hu : u < S.pts.length) : sml (dir S v u) := by
  have b1 := O.box hv
  have b2 := O.box hu
  have := O.w
  have := O.h
  unfold sml dir dx dy
  dsimp only
  omega
def spNext (K : PySem.W.Frag) (C : Addr) : Sp := fun vs H Q _ => ∃ (a p : Addr) (sz : Nat) (S : Plan) (u v : Nat), vs = [.ref a, .ref p, .int (u : Int), .int (v : Int)] ∧ Dw K C H a sz S ∧ LL K H p (nbr S) ∧ Pre5 S ∧ u < S.pts.length ∧ v < S.pts.length ∧ RetV (.int (nextP S u v : Int)) H Q
theorem ok_next_point (T : Txt K mg) : FnOk P w K mg base CX0 4 T.next_point.f T.next_point.fd ["drawing", "neighbours", "u", "v"] (spNext K T.Drawing.C) := by
  refine T.next_point.F.ok sc_next_point (fun vs H Q E h => ?_) (fun cdv A outer s H vs Q E hr h => ?_)
  · obtain ⟨a, p, sz, S, u, v, rfl, _⟩ := h
    rfl
  · refine ⟨_, (pss_cons (ps_set (i := 4) sc_next_point.nd rfl (.inl rfl) (pe_call (ok_away T) (hr.mono (by decide)) rfl T.away.g T.away.F.kp T.away.b .nil pass0 (pa_cons (pv 0) (pa_cons (pv 3) (pa_cons (pv 2) pa_nil)))))
    (pss_cons (ps_set (i := 5) sc_next_point.nd rfl (.inl rfl) (pv 2))
    (pss_cons (ps_for PassesOwn.never rfl (pi_list (pe_ix ix_list (pv 1) (pv 3) (fun _ _ => rfl))) (pg_name (i := 6) sc_next_point.nd rfl (Or.inl rfl)) (pss_one (ps_if (PW.pt (pw_and (pt_cmpR op_ne (pv 6) (pv 2) (nomark _)) (pw_and1 (PW.pt (pw_or (pt_cmpR op_eq (pv 5) (pv 2) (nomark _)) (pw_or1 (pt_val (pe_call (ok_is_sooner T) (hr.mono (by decide)) rfl T.is_sooner.g T.is_sooner.F.kp T.is_sooner.b .nil pass0 (pa_cons (pv 4) (pa_cons (pe_call (ok_away T) (hr.mono (by decide)) rfl T.away.g T.away.F.kp T.away.b .nil pass0 (pa_cons (pv 0) (pa_cons (pv 3) (pa_cons (pv 6) pa_nil)))) (pa_cons (pe_call (ok_away T) (hr.mono (by decide)) rfl T.away.g T.away.F.kp T.away.b .nil pass0 (pa_cons (pv 0) (pa_cons (pv 3) (pa_cons (pv 5) pa_nil)))) pa_nil))))))))))) (pss_one (ps_set (i := 5) sc_next_point.nd rfl (.inl rfl) (pv 6))) pss_nil)))
    (pss_one (ps_ret (pv 5)))))), ?_⟩
    obtain ⟨a, p, sz, S, u, v, rfl, hD, hL, hP, hu, hv, k⟩ := h
    obtain ⟨es, q1, q2, q3⟩ := id hL
    refine q_asgU (eu_call (ea_cons (ev_var rfl) (ea_cons (ev_var rfl) (ea_cons (ev_var rfl) ea_nil))) (spu_away hD hv hu)) fun st H1 nst e1 hst => ?_
    refine q_asg (ev_var rfl) fun H2 e2 => ?_
    have hst : P2 K H2 st (dir S v u) := P2.of (e2 _ _ hst)
    have e2 := e1.trans e2
    have xr : (es.map V.ref)[v]? = some (.ref (es[v]'(by rw [q2]; unfold nbr; simpa using hv))) := by rw [List.getElem?_map, List.getElem?_eq_getElem]; rfl
    have hrow : SqL K H (es[v]'(by rw [q2]; unfold nbr; simpa using hv)) (((S.near v).map fun (n : Nat) => (n : Int)).map V.int) := q3 v _ _ (List.getElem?_eq_getElem _) (nbr_at hv)
    generalize es[v]'(by rw [q2]; unfold nbr; simpa using hv) = row at xr hrow
    have rl : (((S.near v).map fun (n : Nat) => (n : Int)).map V.int).length = (S.near v).length := by rw [List.length_map, List.length_map]
    refine q_forL (xs := ((S.near v).map fun (n : Nat) => (n : Int)).map V.int) (ev_op (ev_var rfl) (ev_var rfl) (rv_ixL (ex_l e2 q1) (at_of rfl xr))) (ex_l e2 hrow)
      (fun i σ' H' => Ex H2 H' ∧ (((S.near v).take i).foldl (nextStep S u v) u) < S.pts.length ∧ ∃ v1, σ' = [some (.ref a), some (.ref p), some (.int (u : Int)), some (.int (v : Int)), some (.ref st), some (.int ((((S.near v).take i).foldl (nextStep S u v) u : Nat) : Int)), v1]) (fun H3 e3 => ⟨e3, hu, _, rfl⟩) (fun i σ' H' _ z => ex_l (e2.trans z.1) hrow) ?_ ?_
    · rintro i y σ' H' hi ⟨e, lb, v1, rfl⟩
      have li : i < (S.near v).length := by
        have := (List.getElem?_eq_some_iff.mp hi).1
        rw [rl] at this
        exact this
      have hj : (S.near v)[i]? = some (S.near v)[i] := List.getElem?_eq_getElem li
      have hjm := List.getElem_mem li
      generalize (S.near v)[i] = j at hj hjm
      rw [List.getElem?_map, List.getElem?_map, hj] at hi
      have hi : V.int (j : Int) = y := Option.some.inj hi
      subst hi
      have jl := near_lt hP hjm
      have tk : (S.near v).take (i + 1) = (S.near v).take i ++ [j] := by
        rw [List.take_add_one, hj]
        rfl
      have fo : ((S.near v).take (i + 1)).foldl (nextStep S u v) u = nextStep S u v (((S.near v).take i).foldl (nextStep S u v) u) j := by
        rw [tk, List.foldl_append]
        rfl
      rw [fo]
      generalize ((S.near v).take i).foldl (nextStep S u v) u = best at lb
      have ee := e2.trans e
      refine s_when (et_and (et_test (ev_op (ev_var rfl) (ev_var rfl) rv_neI)) fun _ => (et_or (et_test (ev_op (ev_var rfl) (ev_var rfl) rv_eqI)) fun _ =>
        et_B (ev_callVUU (ev_var rfl) (eu_call (ea_cons (ev_var rfl) (ea_cons (ev_var rfl) (ea_cons (ev_var rfl) ea_nil))) (spu_away (hD.mono ee) hv jl)) (eu_call (ea_cons (ev_var rfl) (ea_cons (ev_var rfl) (ea_cons (ev_var rfl) ea_nil))) (spu_away (hD.mono ee) hv lb))
          fun t1 t2 H3 e3 h1 h2 => spv_soon ((hst.mono e).mono e3) h1 h2 ⟨sml_dir hP hv hu, sml_dir hP hv jl, sml_dir hP hv lb⟩))) (fun tb H3 e3 => ?_) (fun tb H3 e3 => ?_)
      · refine s_asg (ev_var rfl) fun H4 e4 => ?_
        have : nextStep S u v best j = j := by
          unfold nextStep
          rw [if_pos]
          simp only [Bool.and_eq_true, Bool.or_eq_true, Bool.not_eq_true', decide_eq_true_eq, decide_eq_false_iff_not] at tb
          refine ⟨by intro z; exact tb.1 (by rw [z]), ?_⟩
          rcases tb.2 with q | q
          · left; omega
          · exact .inr q
        rw [this]
        exact ⟨(e.trans e3).trans e4, jl, _, rfl⟩
      · have : nextStep S u v best j = best := by
          unfold nextStep
          rw [if_neg]
          rintro ⟨n1, n2⟩
          simp only [Bool.and_eq_false_iff, Bool.or_eq_false_iff, Bool.not_eq_false', decide_eq_true_eq, decide_eq_false_iff_not] at tb
          rcases tb with q | ⟨q1, q2⟩
          · omega
          · rcases n2 with z | z
            · omega
            · rw [z] at q2
              cases q2
        rw [this]
        exact ⟨e.trans e3, lb, _, rfl⟩
    · rintro σ' H' ⟨e, lb, v1, rfl⟩
      rw [rl, List.take_length]
      exact s_ret (ev_var rfl) fun H3 e3 => k H3 ((e2.trans e).trans e3)
theorem spv_next {C : Addr} {H : Hp} {a p : Addr} {sz : Nat} {S : Plan} {u v : Nat} (D : Dw K C H a sz S) (L : LL K H p (nbr S)) (O : Pre5 S) (hu : u < S.pts.length) (hv : v < S.pts.length) : SpV (spNext K C) [.ref a, .ref p, .int (u : Int), .int (v : Int)] H (.int (nextP S u v : Int)) :=
  fun H1 e Q q E => ⟨a, p, sz, S, u, v, rfl, D.mono e, L.mono e, O, hu, hv, q⟩
end
end Lead
namespace Lead
open PySem PySem.Spec PyProof.Rows L2 Evl LeadT
open GlaPlan
/-- numbers as values -/
abbrev nv (l : List Nat) : List V := l.map fun (n : Nat) => V.int (n : Int)
/-! ### new lists of new pairs -/
/-- addresses of new pairs -/
def PK (H : Hp) (ts : List Addr) (ps : List Z2) : Prop := ts.length = ps.length ∧ ∀ (i : Nat) (a : Addr) (p : Z2), ts[i]? = some a → ps[i]? = some p → H a = some (.tup (vz p))
theorem PK.mono {H H' : Hp} {ts : List Addr} {ps : List Z2} (h : PK H ts ps) (e : Ex H H') : PK H' ts ps := ⟨h.1, fun i a p x y => e _ _ (h.2 i a p x y)⟩
theorem PK.nil (H : Hp) : PK H [] [] := ⟨rfl, fun i a p h => by simp at h⟩
theorem PK.snoc {H : Hp} {ts : List Addr} {ps : List Z2} {a : Addr} {p : Z2} (h : PK H ts ps) (ha : H a = some (.tup (vz p))) : PK H (ts ++ [a]) (ps ++ [p]) := by
  refine ⟨by simp [h.1], fun i b q x y => ?_⟩
  by_cases c : i < ts.length
  · rw [List.getElem?_append_left c] at x
    rw [List.getElem?_append_left (by rw [← h.1]; exact c)] at y
    exact h.2 i b q x y
  · have lt := (List.getElem?_eq_some_iff.mp x).1
    rw [List.length_append] at lt
    have ek : i = ts.length := by simp at lt; omega
    rw [List.getElem?_append_right (by omega), ek, Nat.sub_self] at x
    rw [List.getElem?_append_right (by rw [← h.1]; omega), ek, h.1, Nat.sub_self] at y
    have x := Option.some.inj x
    have y := Option.some.inj y
    rw [← x, ← y]
    exact ha
theorem PK.at_ {H : Hp} {ts : List Addr} {ps : List Z2} (h : PK H ts ps) {i : Nat} {p : Z2} (hp : ps[i]? = some p) : ∃ a, ts[i]? = some a ∧ H a = some (.tup (vz p)) := by
  have lt := (List.getElem?_eq_some_iff.mp hp).1
  have ha : ts[i]? = some (ts[i]'(by rw [h.1]; exact lt)) := List.getElem?_eq_getElem _
  exact ⟨_, ha, h.2 i _ p ha hp⟩
/-- a new list of new pairs -/
def NK (H : Hp) (l : Addr) (ps : List Z2) : Prop := ∃ ts : List Addr, H l = some (.lst (ts.map V.ref)) ∧ PK H ts ps
theorem NK.mono {H H' : Hp} {l : Addr} {ps : List Z2} (h : NK H l ps) (e : Ex H H') : NK H' l ps := let ⟨ts, a, b⟩ := h; ⟨ts, e _ _ a, b.mono e⟩
def EvK (te : TE) (σ : L2.St) (H : Hp) (ps : List Z2) : Prop := ∀ H1, Ex H H1 → ∀ Q : VK, (∀ p H2, H1 p = none → Ex H1 H2 → NK H2 p ps → Q (.ref p) H2) → te σ H1 Q
section
variable {K : PySem.W.Frag} {σ : L2.St} {H H' : Hp} {ta tb te : TE} {tr : TA} {D : Ends} {tu tz : TS} {g : TG} {a l : Addr} {xs : List V} {v : V}
theorem ek_lcR1 {ar : TA} {j : Nat} {vs : List Nat} {n : Int} {ps : List Z2} (h : EvA ar σ H [.int n]) (hn : 0 ≤ n ∧ n ≤ 40000) (hl : n.toNat = ps.length) (hw : ∀ x, wipe ((wipe σ vs).set j (some x)) vs = wipe σ vs)
    (he : ∀ (i : Nat) (p : Z2) H1, Ex H H1 → ps[i]? = some p → EvU te ((wipe σ vs).set j (some (.int (i : Int)))) H1 (vz p)) : EvK (tLc (iRng1 ar) (gName j) tYes te vs) σ H ps := fun H0 e Q q => h H0 e _ fun H1 e1 => ⟨n, rfl, by omega, by omega, fun Dl hD =>
  lc_range (lo := 0) (n := n.toNat) (fun m H' => H1 Dl = none ∧ Ex H1 H' ∧ ∃ ts : List Addr, H' Dl = some (.lst (ts.map V.ref)) ∧ PK H' ts (ps.take m)) ⟨hD, Ex.new hD, [], upd_same, PK.nil _⟩ (fun i H' hi p => by
    have e0 : (0 : Int) + (i : Int) = (i : Int) := Int.zero_add _
    rw [e0]
    refine ⟨hw _, ?_⟩
    dsimp only [tYes]
    rw [if_pos rfl]
    obtain ⟨p1, p2, ts, p3, p4⟩ := p
    have hp : ps[i]? = some (ps[i]'(by omega)) := List.getElem?_eq_getElem _
    generalize ps[i]'(by omega) = pp at hp
    refine he i pp H' ((e.trans e1).trans p2) hp H' (Ex.refl H') _ fun t H4 ht e4 h4 => ⟨ts.map V.ref, e4 _ _ p3, ?_, p1, Ex.mut (p2.trans e4) p1, ts ++ [t], ?_, ?_⟩
    · rw [List.length_map, p4.1, List.length_take]
      exact sz_lt (by omega)
    · rw [upd_same, List.map_append]
      rfl
    · have tk : ps.take (i + 1) = ps.take i ++ [pp] := by
        rw [List.take_add_one, hp]
        rfl
      rw [tk]
      have nt : ∀ b p, H4 b = some (.tup (vz p)) → (upd H4 Dl (.lst (ts.map V.ref ++ [V.ref t]))) b = some (.tup (vz p)) := by
        intro b p hb
        rw [upd_ne]
        · exact hb
        · intro z
          rw [z, e4 _ _ p3] at hb
          cases hb
      refine PK.snoc ⟨p4.1, fun i b q x y => nt b q (e4 _ _ (p4.2 i b q x y))⟩ (nt t pp h4))
  (fun H' p => by
    obtain ⟨p1, p2, ts, p3, p4⟩ := p
    rw [hl, List.take_length] at p4
    exact q Dl H' (fresh_back e1 p1) (e1.trans p2) ⟨ts, p3, p4⟩)⟩
/-- a list of pairs and one more -/
theorem ek_snoc {ps : List Z2} {p : Z2} (ha : Ev ta σ H (.ref a)) (hn : NK H a ps) (h : EvU te σ H (vz p)) (hz : ps.length ≤ 40000) : EvK (tOp rCat ta (tLst (tCons te tNil))) σ H (ps ++ [p]) := fun H1 e Q q => by
  refine ha H1 e _ fun H2 e2 => ?_
  refine h H2 (e.trans e2) _ fun t H3 ht e3 h3 => ⟨(by show 1 ≤ sizeLine; decide), fun b hb => ?_⟩
  obtain ⟨ts, q1, q2⟩ := hn
  have e13 := e2.trans e3
  have q1' := (e.trans e13) _ _ q1
  have nb : a ≠ b := ne_of_none q1' hb
  refine ⟨a, b, ts.map V.ref, [V.ref t], rfl, rfl, by rw [upd_ne nb]; exact q1', upd_same, ?_, fun c hc => ?_⟩
  · rw [List.length_map, q2.1]
    exact sz_of (by simp; omega)
  · have x3 : Ex H3 (upd H3 b (.lst [V.ref t])) := Ex.new hb
    have x4 := x3.trans (Ex.new (o := .lst (ts.map V.ref ++ [V.ref t])) hc)
    exact q c _ (fresh_back (e13.trans x3) hc) (e13.trans x4) ⟨ts ++ [t], by rw [upd_same, List.map_append]; rfl, PK.snoc (q2.mono ((e.trans e13).trans x4)) (x4 _ _ h3)⟩
theorem ek_call {sp : Sp} {vs : List V} {ps : List Z2} {E : XK} {tr : TA} (h : EvA tr σ H vs) (hs : ∀ H1, Ex H H1 → ∀ Q : VK, (∀ p H2, H1 p = none → Ex H1 H2 → NK H2 p ps → Q (.ref p) H2) → sp vs H1 Q E) : EvK (tCall sp [] E tr) σ H ps := fun H1 e Q q =>
  h H1 e _ fun H2 e2 => by
    rw [List.append_nil]
    exact hs H2 (e.trans e2) Q fun p H3 hp e3 h3 => q p H3 (fresh_back e2 hp) (e2.trans e3) h3
theorem q_par {i j : Nat} {x y : V} (ha : EvA tr σ H [x, y]) (k : ∀ H1, Ex H H1 → tz D ((σ.set i (some x)).set j (some y)) H1) : tSeq (tPar i j tr) tz D σ H := ha H (Ex.refl H) _ fun H1 e => ⟨x, y, rfl, k H1 e⟩
theorem s_par {i j : Nat} {x y : V} (ha : EvA tr σ H [x, y]) (k : ∀ H1, Ex H H1 → D.nx ((σ.set i (some x)).set j (some y)) H1) : tPar i j tr D σ H := ha H (Ex.refl H) _ fun H1 e => ⟨x, y, rfl, k H1 e⟩
theorem q_asgK {i : Nat} {ps : List Z2} (h : EvK te σ H ps) (k : ∀ p H1, H p = none → Ex H H1 → NK H1 p ps → tz D (σ.set i (some (.ref p))) H1) : tSeq (tAsg te (gName i)) tz D σ H := h H (Ex.refl H) _ k
theorem s_retK {ps : List Z2} (h : EvK te σ H ps) (k : ∀ p H1, H p = none → Ex H H1 → NK H1 p ps → D.rt (.ref p) H1) : tRet te D σ H := h H (Ex.refl H) _ k
theorem x_forK {ps : List Z2} {tl : TE} (h : EvK tl σ H ps) (Pv : Addr → Hp → Nat → L2.St → Hp → Prop) (h0 : ∀ t H1, H t = none → Ex H H1 → NK H1 t ps → Pv t H1 0 σ H1) (hl : ∀ t H1 i σ' H', Pv t H1 i σ' H' → Ex H1 H')
    (hs : ∀ t H1 i q p σ' H', ps[i]? = some p → H' q = some (.tup (vz p)) → Pv t H1 i σ' H' → g (.ref q) σ' H' fun σ2 H2 => tu { D with nx := Pv t H1 (i + 1), ct := Pv t H1 (i + 1), bk := D.nx } σ2 H2) (hd : ∀ t H1 σ' H', Pv t H1 ps.length σ' H' → D.nx σ' H') : tFor (iList K tl) g tu D σ H :=
  h H (Ex.refl H) _ fun t H1 ht e hn => by
    obtain ⟨ts, z1, z2, z3⟩ := id hn
    have zl : (ts.map V.ref).length = ps.length := by rw [List.length_map, z2]
    refine ⟨t, rfl, ⟨_, sq_of z1⟩, for_list (xs := ts.map V.ref) (Pv t H1) (h0 t H1 ht e hn) (fun i σ' H' _ q => sq_of (hl t H1 i σ' H' q _ _ z1)) (fun i x σ' H' hi q => ?_) (fun σ' H' q => hd t H1 σ' H' (by rw [← zl]; exact q))⟩
    have lt : i < ts.length := by
      have := (List.getElem?_eq_some_iff.mp hi).1
      rwa [List.length_map] at this
    have hp : ps[i]? = some (ps[i]'(by omega)) := List.getElem?_eq_getElem (by omega)
    rw [List.getElem?_map, List.getElem?_eq_getElem lt] at hi
    have hi := Option.some.inj hi
    subst hi
    exact hs t H1 i _ _ σ' H' hp (hl t H1 i σ' H' q _ _ (z3 i _ _ (List.getElem?_eq_getElem lt) hp)) q
theorem y_forK {ps : List Z2} {tl : TE} (h : EvK tl σ H ps) (Pv : Addr → Hp → Nat → L2.St → Hp → Prop) (h0 : ∀ t H1, H t = none → Ex H H1 → NK H1 t ps → Pv t H1 0 σ H1) (hl : ∀ t H1 i σ' H', Pv t H1 i σ' H' → Ex H1 H')
    (hs : ∀ t H1 i q p σ' H', ps[i]? = some p → H' q = some (.tup (vz p)) → Pv t H1 i σ' H' → g (.ref q) σ' H' fun σ2 H2 => tu { D with nx := Pv t H1 (i + 1), ct := Pv t H1 (i + 1), bk := tz D } σ2 H2) (hd : ∀ t H1 σ' H', Pv t H1 ps.length σ' H' → tz D σ' H') : tSeq (tFor (iList K tl) g tu) tz D σ H :=
  x_forK (D := { D with nx := tz D }) h Pv h0 hl hs hd
end
/-! ### sides -/
theorem sides_len (l : List Nat) : (sides l).length = l.length := by
  unfold sides
  rw [List.length_zip, List.length_append, List.length_drop, List.length_take]
  omega
theorem sides_at {l : List Nat} {i : Nat} {a b : Nat} (ha : l[i]? = some a) (hb : l[i + 1]? = some b) : (sides l)[i]? = some (a, b) := by
  unfold sides
  rw [List.getElem?_zip_eq_some]
  have := (List.getElem?_eq_some_iff.mp hb).1
  refine ⟨ha, ?_⟩
  rw [List.getElem?_append_left (by rw [List.length_drop]; omega), List.getElem?_drop, Nat.add_comm]
  exact hb
theorem sides_last {l : List Nat} {a b : Nat} (ha : l[l.length - 1]? = some a) (hb : l[0]? = some b) : (sides l)[l.length - 1]? = some (a, b) := by
  unfold sides
  rw [List.getElem?_zip_eq_some]
  have := (List.getElem?_eq_some_iff.mp ha).1
  refine ⟨ha, ?_⟩
  rw [List.getElem?_append_right (by rw [List.length_drop]; omega), List.length_drop, Nat.sub_self, List.getElem?_take]
  simpa using hb
section
variable {P : Program} {w : World} {K : PySem.W.Frag} {mg : Str → Option Value} {base : Heap}
def spOutl (K : PySem.W.Frag) (C : Addr) : Sp := fun vs H Q _ => ∃ (a p : Addr) (sz : Nat) (S : Plan) (u v : Nat), vs = [.ref a, .ref p, .int (u : Int), .int (v : Int)] ∧ Dw K C H a sz S ∧ LL K H p (nbr S) ∧ Pre10 S ∧ Geo.adj (geoOf S) u v ∧
  ∀ l H', H l = none → Ex H H' → H' l = some (.lst (nv (rd S (u, v)))) → Q (.ref l) H'
theorem ok_outline_from (T : Txt K mg) : FnOk P w K mg base CX0 5 T.outline_from.f T.outline_from.fd ["drawing", "neighbours", "u", "v"] (spOutl K T.Drawing.C) := by
  refine T.outline_from.F.ok sc_outline_from (fun vs H Q E h => ?_) (fun cdv A outer s H vs Q E hr h => ?_)
  · obtain ⟨a, p, sz, S, u, v, rfl, _⟩ := h
    rfl
  · refine ⟨_, (pss_cons (ps_set (i := 4) sc_outline_from.nd rfl (.inl rfl) (pe_lst (pa_cons (pv 2) pa_nil)))
    (pss_cons (ps_par (i := 5) (j := 6) rfl sc_outline_from.nd rfl rfl (by decide) rfl rfl (pa_cons (pv 2) (pa_cons (pv 3) pa_nil)) (by rfl))
    (pss_cons (ps_while PassesOwn.never (pt_cmpR op_ne (pv 6) (pv 2) (nomark _)) (pss_cons (ps_expr (pe_bm PySem.F.plainAttrs_list PySem.F.slot_list_append PySem.F.type_list_append mt_append (pv 4) (pa_cons (pv 6) pa_nil)))
    (pss_one (ps_par (i := 5) (j := 6) rfl sc_outline_from.nd rfl rfl (by decide) rfl rfl (pa_cons (pv 6) (pa_cons (pe_call (ok_next_point T) (hr.mono (by decide)) rfl T.next_point.g T.next_point.F.kp T.next_point.b .nil pass0 (pa_cons (pv 0) (pa_cons (pv 1) (pa_cons (pv 5) (pa_cons (pv 6) pa_nil))))) pa_nil)) (by rfl)))))
    (pss_one (ps_ret (pv 4)))))), ?_⟩
    obtain ⟨a, p, sz, S, u, v, rfl, hD, hL, hP, hs, k⟩ := h
    obtain ⟨n, n1, R⟩ := hP.g.orb (s := (u, v)) hs
    have nb := hP.p.t.2.1
    have re := rd_eq R n1
    have npos := R.pos
    have all : ∀ i, Geo.adj (geoOf S) (Geo.it S.next i (u, v)).1 (Geo.it S.next i (u, v)).2 := fun i => Geo.it_adj hP.g.nxs hs i
    have lt1 : ∀ i, (Geo.it S.next i (u, v)).1 < S.pts.length ∧ (Geo.it S.next i (u, v)).2 < S.pts.length := fun i => by
      rcases all i with q | q
      · have := hP.p.line_lt q
        dsimp only at this
        omega
      · have := hP.p.line_lt q
        dsimp only at this
        omega
    refine q_asgL (xs := nv [u]) (el_lst (ea_cons (ev_var rfl) ea_nil) (by show 1 ≤ 100000; decide)) fun l H1 nl e1 h1 => ?_
    refine q_par (ea_cons (ev_var rfl) (ea_cons (ev_var rfl) ea_nil)) fun H2 e2 => ?_
    refine q_while (fun f σ' H' => ∃ i, i + 1 + f = n ∧ Ex H H' ∧ H' l = some (.lst (nv ((List.range (i + 1)).map fun j => (Geo.it S.next j (u, v)).1))) ∧ σ' = [some (.ref a), some (.ref p), some (.int (u : Int)), some (.int (v : Int)), some (.ref l), some (.int ((Geo.it S.next i (u, v)).1 : Int)), some (.int ((Geo.it S.next i (u, v)).2 : Int))])
      (n - 1) ⟨0, by omega, e1.trans e2, e2 _ _ h1, rfl⟩ ?_
    rintro f σ' H' ⟨i, hi, e, hl, rfl⟩
    have st := Geo.it_succ (nx := S.next) i (u, v)
    have sn : (Geo.it S.next (i + 1) (u, v)).1 = (Geo.it S.next i (u, v)).2 := by rw [st]; rfl
    refine ⟨_, et_test (ev_op (ev_var rfl) (ev_var rfl) rv_neI), fun tb H3 e3 => ?_, fun tb H3 e3 => ?_⟩
    · have ne : (Geo.it S.next i (u, v)).2 ≠ u := by
        intro z
        rw [z] at tb
        simp at tb
      have fp : 0 < f := by
        false_or_by_contra
        apply ne
        rw [← sn, show i + 1 = n by omega, R.back]
      refine ⟨_, fun σ2 H4 h => ⟨f - 1, by omega, i + 1, by omega, h⟩, ?_⟩
      refine q_app (e3 _ _ hl) (ev_var rfl) (ev_var rfl) (by simp; omega) fun H4 e4 => ?_
      have e04 : Ex H (upd H4 l (.lst (nv ((List.range (i + 1)).map fun j => (Geo.it S.next j (u, v)).1) ++ [V.int ((Geo.it S.next i (u, v)).2 : Int)]))) := Ex.mut ((e.trans e3).trans e4) nl
      have hl4 : (upd H4 l (.lst (nv ((List.range (i + 1)).map fun j => (Geo.it S.next j (u, v)).1) ++ [V.int ((Geo.it S.next i (u, v)).2 : Int)]))) l = some (.lst (nv ((List.range (i + 1 + 1)).map fun j => (Geo.it S.next j (u, v)).1))) := by
        rw [upd_same, List.range_succ (n := i + 1), List.map_append]
        unfold nv
        rw [List.map_append, ← sn]
        rfl
      generalize upd H4 l (.lst (nv ((List.range (i + 1)).map fun j => (Geo.it S.next j (u, v)).1) ++ [V.int ((Geo.it S.next i (u, v)).2 : Int)])) = H5 at e04 hl4
      have ad := all i
      have l12 := lt1 i
      refine s_par (ea_cons (ev_var rfl) (ea_cons (ev_call (ea_cons (ev_var rfl) (ea_cons (ev_var rfl) (ea_cons (ev_var rfl) (ea_cons (ev_var rfl) ea_nil)))) (spv_next (hD.mono e04) (hL.mono e04) hP.p l12.1 l12.2)) ea_nil)) fun H6 e6 => ⟨e04.trans e6, e6 _ _ hl4, ?_⟩
      rw [next_eq hP.g (by rcases ad with q | q; exact .inr q; exact .inl q), st]
      rfl
    · have eq : (Geo.it S.next i (u, v)).2 = u := by
        simp at tb
        omega
      have f0 : f = 0 := by
        false_or_by_contra
        exact R.first (i + 1) (by omega) (by omega) (Geo.once hP.g.ok hP.g.nxs hP.g.two hs (by rw [sn]; exact eq))
      refine s_ret (ev_var rfl) fun H4 e4 => k l H4 nl ((e.trans e3).trans e4) (e4 _ _ (e3 _ _ ?_))
      rw [hl, re, show i + 1 = n by omega]
      unfold Geo.orb
      rw [List.map_map]
      rfl
def spSides (K : PySem.W.Frag) : Sp := fun vs H Q _ => ∃ (l : Addr) (xs : List Nat), vs = [.ref l] ∧ SqL K H l (nv xs) ∧ 0 < xs.length ∧ xs.length ≤ 40000 ∧ ∀ p H2, H p = none → Ex H H2 → NK H2 p ((sides xs).map lnZ) → Q (.ref p) H2
theorem ok_sides_of (T : Txt K mg) : FnOk P w K mg base CX0 1 T.sides_of.f T.sides_of.fd ["outline"] (spSides K) := by
  refine T.sides_of.F.ok sc_sides_of (fun vs H Q E h => ?_) (fun cdv A outer s H vs Q E hr h => ?_)
  · obtain ⟨l, xs, rfl, _⟩ := h
    rfl
  · refine ⟨_, (pss_cons (ps_setLc (i := 1) (own := [("k", 2)]) (g := (gName 2)) rfl sc_sides_of.nd rfl rfl (sw_true rfl rfl rfl (by decide +kernel)) (pi_range1 rfl T.n_range (pa_cons (pe_op op_sub (pe_callB call_len_seq (by rfl) T.n_len PySem.boot_len (pa_cons (pv 0) pa_nil)) pe_int) pa_nil)) (blkOk_by (N := N_sides_of) (sc := defScope s_sides_of) (by decide +kernel)) (fun _ _ _ _ _ => (pg_name (i := 2) sc_sides_of.nd rfl (Or.inl rfl))) (fun _ _ _ _ _ => pts_nil) (fun _ _ _ _ _ => (pe_tup (pa_cons (pe_ix (show IxR _ (rIxL K) from ix_list) (pv 0) (pv 2) (fun _ _ => rfl)) (pa_cons (pe_ix (show IxR _ (rIxL K) from ix_list) (pv 0) (pe_op op_add (pv 2) pe_int) (fun _ _ => rfl)) pa_nil)))))
    (pss_one (ps_ret (pe_op op_cat (pv 1) (pe_lst (pa_cons (pe_tup (pa_cons (pe_ix ix_list (pv 0) (pe_un un_neg pe_int) (fun _ _ => rfl)) (pa_cons (pe_ix ix_list (pv 0) pe_int (fun _ _ => rfl)) pa_nil))) pa_nil)))))), ?_⟩
    obtain ⟨l, xs, rfl, hl, n0, n1, k⟩ := h
    have ln : (nv xs).length = xs.length := List.length_map _
    have at1 : ∀ (i x : Nat), xs[i]? = some x → (nv xs)[i]? = some (V.int (x : Int)) := fun i x hx => by unfold nv; rw [List.getElem?_map, hx]; rfl
    have sl := sides_len xs
    have last : xs[xs.length - 1]? = some (xs[xs.length - 1]'(by omega)) := List.getElem?_eq_getElem _
    have fst : xs[0]? = some (xs[0]'n0) := List.getElem?_eq_getElem _
    generalize xs[xs.length - 1]'(by omega) = x9 at last
    generalize xs[0]'n0 = x0 at fst
    have sL := sides_last last fst
    have split : (sides xs).map lnZ = ((sides xs).map lnZ).take (xs.length - 1) ++ [lnZ (x9, x0)] := by
      have h1 : ((sides xs).map lnZ)[xs.length - 1]? = some (lnZ (x9, x0)) := map_at sL
      have := List.take_add_one (l := (sides xs).map lnZ) (i := xs.length - 1)
      rw [h1, List.take_of_length_le (by rw [List.length_map, sl]; omega)] at this
      exact this
    refine q_asgK (ek_lcR1 (ps := ((sides xs).map lnZ).take (xs.length - 1)) (ea_cons (ev_op (ev_lenL (ev_var rfl) hl) ev_c rv_I0) ea_nil) (by rw [ln]; omega) (by rw [ln, List.length_take, List.length_map, sl]; omega) (fun x => rfl) (fun i p H1 e1 hp => ?_)) fun t H1 ht e1 hn => ?_
    · have li := (List.getElem?_eq_some_iff.mp hp).1
      rw [List.length_take, List.length_map, sl] at li
      have a1 : xs[i]? = some (xs[i]'(by omega)) := List.getElem?_eq_getElem _
      have a2 : xs[i + 1]? = some (xs[i + 1]'(by omega)) := List.getElem?_eq_getElem _
      generalize xs[i]'(by omega) = x1 at a1
      generalize xs[i + 1]'(by omega) = x2 at a2
      have hq : (((sides xs).map lnZ).take (xs.length - 1))[i]? = some (lnZ (x1, x2)) := by
        rw [List.getElem?_take, if_pos (by omega)]
        exact map_at (sides_at a1 a2)
      rw [hq] at hp
      have hp := Option.some.inj hp
      subst hp
      exact eu_tup (ea_cons (ev_op (ev_var rfl) (ev_var rfl) (rv_ixL (ex_l e1 hl) (at_of rfl (at1 i x1 a1)))) (ea_cons (ev_op (ev_var rfl) (ev_op (ev_var rfl) ev_c rv_I0) (rv_ixL (ex_l e1 hl) (at_of (j := i + 1) (by omega) (at1 (i + 1) x2 a2)))) ea_nil)) (by show 2 ≤ 100000; decide)
    · refine s_retK (ek_snoc (ps := ((sides xs).map lnZ).take (xs.length - 1)) (p := lnZ (x9, x0)) (ev_var rfl) hn (eu_tup (ea_cons (ev_op (ev_var rfl) (ev_un ev_c ru_neg) (rv_ixL (ex_l e1 hl) ?_)) (ea_cons (ev_op (ev_var rfl) ev_c (rv_ixL (ex_l e1 hl) (at_of (j := 0) rfl (at1 0 x0 fst)))) ea_nil)) (by show 2 ≤ 100000; decide)) (by rw [List.length_take]; omega)) fun p H2 hp e2 h2 => ?_
      · unfold atI ixN
        rw [if_neg (by decide), if_pos (by rw [ln]; omega)]
        show (nv xs)[_]? = _
        rw [show ((-1 : Int) + ((nv xs).length : Int)).toNat = xs.length - 1 by rw [ln]; omega]
        exact at1 _ _ last
      · rw [← split] at h2
        exact k p H2 (fresh_back e1 hp) (e1.trans e2) h2
theorem sp_sides {l : Addr} {xs : List Nat} {H : Hp} {E : XK} (hl : SqL K H l (nv xs)) (n0 : 0 < xs.length) (n1 : xs.length ≤ 40000) : ∀ H1, Ex H H1 → ∀ Q : VK, (∀ p H2, H1 p = none → Ex H1 H2 → NK H2 p ((sides xs).map lnZ) → Q (.ref p) H2) → spSides K [.ref l] H1 Q E := fun H1 e Q q => ⟨l, xs, rfl, ex_l e hl, n0, n1, q⟩
end
end Lead
namespace Lead
open PySem PySem.Spec PyProof.Rows L2 Evl LeadT
open GlaPlan
theorem take_snoc {α : Type} {l : List α} {i : Nat} {x : α} (h : l[i]? = some x) : l.take (i + 1) = l.take i ++ [x] := by
  rw [List.take_add_one, h]
  rfl
theorem sides_mem {l : List Nat} {d : Nat × Nat} (h : d ∈ sides l) : d.1 ∈ l ∧ d.2 ∈ l := by
  unfold sides at h
  have h1 := (List.of_mem_zip (show (d.1, d.2) ∈ _ from h))
  refine ⟨h1.1, ?_⟩
  rcases List.mem_append.mp h1.2 with q | q
  · exact List.mem_of_mem_drop q
  · exact List.mem_of_mem_take q
/-- an outline as the program has it: numbers of points -/
structure Outn (S : Plan) (xs : List Nat) : Prop where
  pos : 0 < xs.length
  len : xs.length ≤ 40000
  lt : ∀ x ∈ xs, x < S.pts.length
theorem Outn.rd {S : Plan} (O : Pre10 S) {d : Nat × Nat} (h : Geo.adj (geoOf S) d.1 d.2) : Outn S (rd S d) := by
  obtain ⟨k, k1, R⟩ := O.g.orb h
  have re := rd_eq R k1
  have nb := O.p.t.2.1
  have npos := R.pos
  refine ⟨?_, ?_, fun x hx => ?_⟩
  · rw [re]
    unfold Geo.orb
    rw [List.length_map, List.length_map, List.length_range]
    exact npos
  · rw [re]
    unfold Geo.orb
    rw [List.length_map, List.length_map, List.length_range]
    omega
  · rw [re, List.mem_map] at hx
    obtain ⟨e, he, rfl⟩ := hx
    rcases Geo.orb_adj O.g.nxs h e he with q | q
    · have := O.p.line_lt q
      dsimp only at this
      omega
    · have := O.p.line_lt q
      dsimp only at this
      omega
def psdZ (p q m : Z2) : Int := if (p.2 ≤ m.2 ∧ m.2 < q.2) ∧ 0 < tnZ p q m then 1 else if (q.2 ≤ m.2 ∧ m.2 < p.2) ∧ tnZ p q m < 0 then -1 else 0
theorem psd_aux (a b c : Nat) (t u : Int) (h : u = -t) : (if ((a : Int) ≤ c ∧ (c : Int) < b) ∧ 0 < t then (1 : Int) else if ((b : Int) ≤ c ∧ (c : Int) < a) ∧ t < 0 then -1 else 0) = (if (a ≤ c ∧ c < b) ∧ 0 < t then 1 else 0) - (if (b ≤ c ∧ c < a) ∧ 0 < u then 1 else 0) := by
  repeat' split
  all_goals omega
theorem psd_Z (S : Plan) (z : Pt) (d : Nat × Nat) : psdZ (ptZ (S.pt d.1)) (ptZ (S.pt d.2)) (ptZ z) = psd S z d :=
  psd_aux _ _ _ _ _ (turn_back _ _ _)
section
variable {P : Program} {w : World} {K : PySem.W.Frag} {mg : Str → Option Value} {base : Heap}
theorem NK.np {H : Hp} {l : Addr} {ps : List Z2} (h : NK H l ps) : NPt K H l ps := let ⟨ts, a, b, c⟩ := h; ⟨ts, a, b, fun i q p x y => P2.of (c i q p x y)⟩
theorem en_K {te : TE} {σ : L2.St} {H : Hp} {ps : List Z2} (h : EvK te σ H ps) : EvN K te σ H ps := fun H1 e Q q => h H1 e Q fun p H2 hp e2 h2 => q p H2 hp e2 h2.np
theorem y_forN {σ : L2.St} {H : Hp} {D : Ends} {tu tz : TS} {g : TG} {ps : List Z2} {tl : TE} (h : EvN K tl σ H ps) (Pv : Addr → Hp → Nat → L2.St → Hp → Prop) (h0 : ∀ t H1, H t = none → Ex H H1 → NPt K H1 t ps → Pv t H1 0 σ H1) (hl : ∀ t H1 i σ' H', Pv t H1 i σ' H' → Ex H1 H')
    (hs : ∀ t H1 i q p σ' H', ps[i]? = some p → P2 K H' q p → Pv t H1 i σ' H' → g (.ref q) σ' H' fun σ2 H2 => tu { D with nx := Pv t H1 (i + 1), ct := Pv t H1 (i + 1), bk := tz D } σ2 H2) (hd : ∀ t H1 σ' H', Pv t H1 ps.length σ' H' → tz D σ' H') : tSeq (tFor (iList K tl) g tu) tz D σ H :=
  x_forN (D := { D with nx := tz D }) h Pv h0 hl hs hd
def spLeft (K : PySem.W.Frag) (C : Addr) : Sp := fun vs H Q _ => ∃ (a l : Addr) (sz : Nat) (S : Plan) (xs : List Nat), vs = [.ref a, .ref l] ∧ Dw K C H a sz S ∧ Pre5 S ∧ SqL K H l (nv xs) ∧ Outn S xs ∧ RetV (.bl (decide (0 < twiceArea S xs))) H Q
theorem ok_is_to_left (T : Txt K mg) : FnOk P w K mg base CX0 2 T.is_to_left.f T.is_to_left.fd ["drawing", "outline"] (spLeft K T.Drawing.C) := by
  refine T.is_to_left.F.ok sc_is_to_left (fun vs H Q E h => ?_) (fun cdv A outer s H vs Q E hr h => ?_)
  · obtain ⟨a, l, sz, S, xs, rfl, _⟩ := h
    rfl
  · refine ⟨_, (pss_cons (ps_set (i := 2) sc_is_to_left.nd rfl (.inl rfl) pe_int)
    (pss_cons (ps_for PassesOwn.never rfl (pi_list (pe_call (ok_sides_of T) (hr.mono (by decide)) rfl T.sides_of.g T.sides_of.F.kp T.sides_of.b .nil pass0 (pa_cons (pv 1) pa_nil))) (pg_tup rfl (pgs_cons (pg_name (i := 3) sc_is_to_left.nd rfl (Or.inl rfl)) (pgs_cons (pg_name (i := 4) sc_is_to_left.nd rfl (Or.inl rfl)) pgs_nil))) (pss_one (ps_set (i := 2) sc_is_to_left.nd rfl (.inl rfl) (pe_op op_add (pv 2) (pe_call (ok_area T) (hr.mono (by decide)) rfl T.area.g T.area.F.kp T.area.b .nil pass0 (pa_cons (pe_ix ix_list (pe_fld (pv 0) rfl) (pv 3) (fun _ _ => rfl)) (pa_cons (pe_ix ix_list (pe_fld (pv 0) rfl) (pv 4) (fun _ _ => rfl)) pa_nil)))))))
    (pss_one (ps_ret (pe_cmpR op_gt (pv 2) pe_int (nomark _)))))), ?_⟩
    obtain ⟨a, l, sz, S, xs, rfl, hD, hP, hl, hx, k⟩ := h
    obtain ⟨dx, c, l1, l2, l3, D⟩ := hD
    have cl := T.Drawing.cl
    refine q_asg ev_c fun H1 e1 => ?_
    refine y_forN (ps := (sides xs).map lnZ) (en_K (ek_call (ea_cons (ev_var rfl) ea_nil) (sp_sides (ex_l e1 hl) hx.pos hx.len)))
      (fun t H2 i σ' H' => Ex H H2 ∧ Ex H2 H' ∧ ∃ v1 v2, σ' = [some (.ref a), some (.ref l), some (.int (sm ((sides xs).take i) (ar S))), v1, v2]) (fun t H2 _ e2 _ => ⟨e1.trans e2, Ex.refl _, _, _, rfl⟩) (fun t H2 i σ' H' q => q.2.1) ?_ ?_
    · rintro t H2 i q p σ' H' hi hq ⟨e0, e2, v1, v2, rfl⟩
      rw [List.getElem?_map] at hi
      obtain ⟨d, hd, rfl⟩ := Option.map_eq_some_iff.mp hi
      have dm := sides_mem (List.mem_of_getElem? hd)
      have g1 := hx.lt _ dm.1
      have g2 := hx.lt _ dm.2
      refine ⟨q, _, rfl, hq, rfl, _, _, rfl, _, _, rfl, rfl, ?_⟩
      have ee := e0.trans e2
      obtain ⟨p1, hp1, ev1⟩ := ev_dpt (σ := [some (.ref a), some (.ref l), some (.int (sm ((sides xs).take i) (ar S))), some (.int (lnZ d).1), some (.int (lnZ d).2)]) (ta := tVar 0) (tb := tVar 3) (D.mono ee) cl T.Drawing.na_points (ev_var rfl) (ev_var rfl) rfl g1
      obtain ⟨p2, hp2, ev2⟩ := ev_dpt (σ := [some (.ref a), some (.ref l), some (.int (sm ((sides xs).take i) (ar S))), some (.int (lnZ d).1), some (.int (lnZ d).2)]) (ta := tVar 0) (tb := tVar 4) (D.mono ee) cl T.Drawing.na_points (ev_var rfl) (ev_var rfl) rfl g2
      refine s_asg (ev_op (ev_var rfl) (ev_call (ea_cons ev1 (ea_cons ev2 ea_nil)) (spv_area hp1 hp2 ⟨hP.sm g1, hP.sm g2⟩)) rv_I0) fun H3 e3 => ⟨e0, e2.trans e3, some (.int (lnZ d).1), some (.int (lnZ d).2), ?_⟩
      rw [take_snoc hd, sm_append]
      have : crs (ptZ (S.pt d.1)) (ptZ (S.pt d.2)) = sm [d] (ar S) := by
        show crs _ _ = ar S d + 0
        unfold crs ar ptZ
        grind
      rw [← this]
      rfl
    · rintro t H2 σ' H' ⟨e0, e2, v1, v2, rfl⟩
      rw [List.length_map, List.take_length, ← area_sm]
      exact s_ret (ev_op (ev_var rfl) ev_c rv_I0) fun H3 e3 => k H3 ((e0.trans e2).trans e3)
theorem spv_left {C : Addr} {H : Hp} {a l : Addr} {sz : Nat} {S : Plan} {xs : List Nat} (D : Dw K C H a sz S) (O : Pre5 S) (hl : SqL K H l (nv xs)) (hx : Outn S xs) : SpV (spLeft K C) [.ref a, .ref l] H (.bl (decide (0 < twiceArea S xs))) := fun H1 e Q q E => ⟨a, l, sz, S, xs, rfl, D.mono e, O, ex_l e hl, hx, q⟩
def spPsd (K : PySem.W.Frag) : Sp := fun vs H Q _ => ∃ (a b c : Addr) (p q r : Z2), vs = [.ref a, .ref b, .ref c] ∧ P2 K H a p ∧ P2 K H b q ∧ P2 K H c r ∧ (sml p ∧ sml q ∧ sml r) ∧ RetV (.int (psdZ p q r)) H Q
theorem ok_is_passed (T : Txt K mg) : FnOk P w K mg base CX0 2 T.is_passed.f T.is_passed.fd ["p", "q", "mark"] (spPsd K) := by
  refine T.is_passed.F.ok sc_is_passed (fun vs H Q E h => ?_) (fun cdv A outer s H vs Q E hr h => ?_)
  · obtain ⟨a, b, c, p, q, r, rfl, _⟩ := h
    rfl
  · refine ⟨_, (pss_cons (ps_if (PW.pt (pw_and (pt_chain op_le op_lt (pe_ix ix_tup (pv 0) pe_int (fun _ _ => rfl)) (pe_ix ix_tup (pv 2) pe_int (fun _ _ => rfl)) (pe_ix ix_tup (pv 1) pe_int (fun _ _ => rfl))) (pw_and1 (pt_cmpR op_gt (pe_call (ok_turn T) (hr.mono (by decide)) rfl T.turn.g T.turn.F.kp T.turn.b .nil pass0 (pa_cons (pv 0) (pa_cons (pv 1) (pa_cons (pv 2) pa_nil)))) pe_int (nomark _))))) (pss_one (ps_ret pe_int)) pss_nil)
    (pss_cons (ps_if (PW.pt (pw_and (pt_chain op_le op_lt (pe_ix ix_tup (pv 1) pe_int (fun _ _ => rfl)) (pe_ix ix_tup (pv 2) pe_int (fun _ _ => rfl)) (pe_ix ix_tup (pv 0) pe_int (fun _ _ => rfl))) (pw_and1 (pt_cmpR op_lt (pe_call (ok_turn T) (hr.mono (by decide)) rfl T.turn.g T.turn.F.kp T.turn.b .nil pass0 (pa_cons (pv 0) (pa_cons (pv 1) (pa_cons (pv 2) pa_nil)))) pe_int (nomark _))))) (pss_one (ps_ret (pe_un un_neg pe_int))) pss_nil)
    (pss_one (ps_ret pe_int)))), ?_⟩
    obtain ⟨a, b, c, p, q, r, rfl, hp, hq, hr', sb, k⟩ := h
    unfold psdZ at k
    refine q_when (et_and (et_test (ev_chain (ev_p1 (ev_var rfl) hp) (ev_p1 (ev_var rfl) hr') rv_I0 (fun _ => ev_p1 (ev_var rfl) hq) (fun _ => rv_I0))) fun _ => et_test (ev_op (ev_call (ea_cons (ev_var rfl) (ea_cons (ev_var rfl) (ea_cons (ev_var rfl) ea_nil))) (spv_turn hp hq hr' sb)) ev_c rv_I0)) (fun tb H1 e1 => ?_) (fun tb H1 e1 => ?_)
    · rw [if_pos (by simpa using tb)] at k
      exact s_ret ev_c fun H2 e2 => k H2 (e1.trans e2)
    · rw [if_neg (by
        rintro ⟨⟨z1, z2⟩, z3⟩
        rw [decide_eq_true z1, decide_eq_true z2, decide_eq_true z3] at tb
        cases tb)] at k
      have hp := hp.mono e1
      have hq := hq.mono e1
      have hr' := hr'.mono e1
      refine q_when (et_and (et_test (ev_chain (ev_p1 (ev_var rfl) hq) (ev_p1 (ev_var rfl) hr') rv_I0 (fun _ => ev_p1 (ev_var rfl) hp) (fun _ => rv_I0))) fun _ => et_test (ev_op (ev_call (ea_cons (ev_var rfl) (ea_cons (ev_var rfl) (ea_cons (ev_var rfl) ea_nil))) (spv_turn hp hq hr' sb)) ev_c rv_I0)) (fun tb H2 e2 => ?_) (fun tb H2 e2 => ?_)
      · rw [if_pos (by simpa using tb)] at k
        exact s_ret (ev_un ev_c ru_neg) fun H3 e3 => k H3 ((e1.trans e2).trans e3)
      · rw [if_neg (by
          rintro ⟨⟨z1, z2⟩, z3⟩
          rw [decide_eq_true z1, decide_eq_true z2, decide_eq_true z3] at tb
          cases tb)] at k
        exact s_ret ev_c fun H3 e3 => k H3 ((e1.trans e2).trans e3)
theorem spv_psd {H : Hp} {a b c : Addr} {p q r : Z2} (hp : P2 K H a p) (hq : P2 K H b q) (hr : P2 K H c r) (h : sml p ∧ sml q ∧ sml r) : SpV (spPsd K) [.ref a, .ref b, .ref c] H (.int (psdZ p q r)) := fun H1 e Q q' E => ⟨a, b, c, p, q, r, rfl, hp.mono e, hq.mono e, hr.mono e, h, q'⟩
def spIsIn (K : PySem.W.Frag) (C : Addr) : Sp := fun vs H Q _ => ∃ (a l m : Addr) (sz : Nat) (S : Plan) (xs : List Nat) (z : Pt), vs = [.ref a, .ref l, .ref m] ∧ Dw K C H a sz S ∧ Pre5 S ∧ SqL K H l (nv xs) ∧ Outn S xs ∧ P2 K H m (ptZ z) ∧ sml (ptZ z) ∧ RetV (.bl (isIn S xs z)) H Q
theorem ok_is_in (T : Txt K mg) : FnOk P w K mg base CX0 3 T.is_in.f T.is_in.fd ["drawing", "outline", "mark"] (spIsIn K T.Drawing.C) := by
  refine T.is_in.F.ok sc_is_in (fun vs H Q E h => ?_) (fun cdv A outer s H vs Q E hr h => ?_)
  · obtain ⟨a, l, m, sz, S, xs, z, rfl, _⟩ := h
    rfl
  · refine ⟨_, (pss_cons (ps_set (i := 3) sc_is_in.nd rfl (.inl rfl) pe_int)
    (pss_cons (ps_for PassesOwn.never rfl (pi_list (pe_call (ok_sides_of T) (hr.mono (by decide)) rfl T.sides_of.g T.sides_of.F.kp T.sides_of.b .nil pass0 (pa_cons (pv 1) pa_nil))) (pg_tup rfl (pgs_cons (pg_name (i := 4) sc_is_in.nd rfl (Or.inl rfl)) (pgs_cons (pg_name (i := 5) sc_is_in.nd rfl (Or.inl rfl)) pgs_nil))) (pss_one (ps_set (i := 3) sc_is_in.nd rfl (.inl rfl) (pe_op op_add (pv 3) (pe_call (ok_is_passed T) (hr.mono (by decide)) rfl T.is_passed.g T.is_passed.F.kp T.is_passed.b .nil pass0 (pa_cons (pe_ix ix_list (pe_fld (pv 0) rfl) (pv 4) (fun _ _ => rfl)) (pa_cons (pe_ix ix_list (pe_fld (pv 0) rfl) (pv 5) (fun _ _ => rfl)) (pa_cons (pv 2) pa_nil))))))))
    (pss_one (ps_ret (pe_cmpR op_ne (pv 3) pe_int (nomark _)))))), ?_⟩
    obtain ⟨a, l, m, sz, S, xs, z, rfl, hD, hP, hl, hx, hm, hz, k⟩ := h
    obtain ⟨dx, c, l1, l2, l3, D⟩ := hD
    have cl := T.Drawing.cl
    refine q_asg ev_c fun H1 e1 => ?_
    refine y_forN (ps := (sides xs).map lnZ) (en_K (ek_call (ea_cons (ev_var rfl) ea_nil) (sp_sides (ex_l e1 hl) hx.pos hx.len)))
      (fun t H2 i σ' H' => Ex H H2 ∧ Ex H2 H' ∧ ∃ v1 v2, σ' = [some (.ref a), some (.ref l), some (.ref m), some (.int (sm ((sides xs).take i) (psd S z))), v1, v2]) (fun t H2 _ e2 _ => ⟨e1.trans e2, Ex.refl _, _, _, rfl⟩) (fun t H2 i σ' H' q => q.2.1) ?_ ?_
    · rintro t H2 i q p σ' H' hi hq ⟨e0, e2, v1, v2, rfl⟩
      rw [List.getElem?_map] at hi
      obtain ⟨d, hd, rfl⟩ := Option.map_eq_some_iff.mp hi
      have dm := sides_mem (List.mem_of_getElem? hd)
      have g1 := hx.lt _ dm.1
      have g2 := hx.lt _ dm.2
      refine ⟨q, _, rfl, hq, rfl, _, _, rfl, _, _, rfl, rfl, ?_⟩
      have ee := e0.trans e2
      obtain ⟨p1, hp1, ev1⟩ := ev_dpt (σ := [some (.ref a), some (.ref l), some (.ref m), some (.int (sm ((sides xs).take i) (psd S z))), some (.int (lnZ d).1), some (.int (lnZ d).2)]) (ta := tVar 0) (tb := tVar 4) (D.mono ee) cl T.Drawing.na_points (ev_var rfl) (ev_var rfl) rfl g1
      obtain ⟨p2, hp2, ev2⟩ := ev_dpt (σ := [some (.ref a), some (.ref l), some (.ref m), some (.int (sm ((sides xs).take i) (psd S z))), some (.int (lnZ d).1), some (.int (lnZ d).2)]) (ta := tVar 0) (tb := tVar 5) (D.mono ee) cl T.Drawing.na_points (ev_var rfl) (ev_var rfl) rfl g2
      refine s_asg (ev_op (ev_var rfl) (ev_call (ea_cons ev1 (ea_cons ev2 (ea_cons (ev_var rfl) ea_nil))) (spv_psd hp1 hp2 (hm.mono ee) ⟨hP.sm g1, hP.sm g2, hz⟩)) rv_I0) fun H3 e3 => ⟨e0, e2.trans e3, some (.int (lnZ d).1), some (.int (lnZ d).2), ?_⟩
      rw [take_snoc hd, sm_append, psd_Z]
      have : psd S z d = sm [d] (psd S z) := by
        show _ = psd S z d + 0
        omega
      rw [← this]
      rfl
    · rintro t H2 σ' H' ⟨e0, e2, v1, v2, rfl⟩
      rw [List.length_map, List.take_length]
      refine s_ret (ev_op (ev_var rfl) ev_c rv_neI) fun H3 e3 => ?_
      have := k H3 ((e0.trans e2).trans e3)
      unfold isIn at this
      rw [← decide_not]
      exact this
theorem spv_is_in {C : Addr} {H : Hp} {a l m : Addr} {sz : Nat} {S : Plan} {xs : List Nat} {z : Pt} (D : Dw K C H a sz S) (O : Pre5 S) (hl : SqL K H l (nv xs)) (hx : Outn S xs) (hm : P2 K H m (ptZ z)) (hz : sml (ptZ z)) : SpV (spIsIn K C) [.ref a, .ref l, .ref m] H (.bl (isIn S xs z)) := fun H1 e Q q E => ⟨a, l, m, sz, S, xs, z, rfl, D.mono e, O, ex_l e hl, hx, hm.mono e, hz, q⟩
/-- a list of outlines -/
def OL (K : PySem.W.Frag) (H : Hp) (l : Addr) (rows : List (List Nat)) : Prop := ∃ as : List Addr, SqL K H l (as.map V.ref) ∧ as.length = rows.length ∧ ∀ (i : Nat) (a : Addr) (r : List Nat), as[i]? = some a → rows[i]? = some r → SqL K H a (nv r)
theorem OL.mono {H H' : Hp} {l : Addr} {rows : List (List Nat)} (h : OL K H l rows) (e : Ex H H') : OL K H' l rows := by
  obtain ⟨as, h1, h2, h3⟩ := h
  exact ⟨as, ex_l e h1, h2, fun i a r x y => ex_l e (h3 i a r x y)⟩
def paneI (o : Option Nat) : Int := match o with | some i => (i : Int) | none => -1
def spPane (K : PySem.W.Frag) (C : Addr) : Sp := fun vs H Q _ => ∃ (a l m : Addr) (sz : Nat) (S : Plan) (rows : List (List Nat)) (z : Pt), vs = [.ref a, .ref l, .ref m] ∧ Dw K C H a sz S ∧ Pre5 S ∧ OL K H l rows ∧ rows.length ≤ 100000 ∧ (∀ r ∈ rows, Outn S r) ∧ P2 K H m (ptZ z) ∧ sml (ptZ z) ∧ RetV (.int (paneI (rows.findIdx? fun r => isIn S r z))) H Q
theorem find_none {α : Type} {p : α → Bool} {l : List α} (h : ∀ (i : Nat) x, l[i]? = some x → p x = false) : l.findIdx? p = none := by
  rw [List.findIdx?_eq_none_iff]
  intro x hx
  obtain ⟨i, hi⟩ := List.getElem?_of_mem hx
  exact h i x hi
theorem find_some {α : Type} {p : α → Bool} {l : List α} {i : Nat} {x : α} (hx : l[i]? = some x) (px : p x = true) (h : ∀ (j : Nat) y, j < i → l[j]? = some y → p y = false) : l.findIdx? p = some i := by
  obtain ⟨lt, e⟩ := List.getElem?_eq_some_iff.mp hx
  rw [List.findIdx?_eq_some_iff_getElem]
  refine ⟨lt, by rw [e]; exact px, fun j hj => ?_⟩
  have := h j (l[j]'(by omega)) hj (List.getElem?_eq_getElem _)
  rw [this]
  decide
theorem ok_pane_of (T : Txt K mg) : FnOk P w K mg base CX0 4 T.pane_of.f T.pane_of.fd ["drawing", "outlines", "mark"] (spPane K T.Drawing.C) := by
  refine T.pane_of.F.ok sc_pane_of (fun vs H Q E h => ?_) (fun cdv A outer s H vs Q E hr h => ?_)
  · obtain ⟨a, l, m, sz, S, rows, z, rfl, _⟩ := h
    rfl
  · refine ⟨_, (pss_cons (ps_for PassesOwn.never rfl (pi_range1 rfl T.n_range (pa_cons (pe_callB call_len_seq (by rfl) T.n_len PySem.boot_len (pa_cons (pv 1) pa_nil)) pa_nil)) (pg_name (i := 3) sc_pane_of.nd rfl (Or.inl rfl)) (pss_one (ps_if (pt_val (pe_call (ok_is_in T) (hr.mono (by decide)) rfl T.is_in.g T.is_in.F.kp T.is_in.b .nil pass0 (pa_cons (pv 0) (pa_cons (pe_ix ix_list (pv 1) (pv 3) (fun _ _ => rfl)) (pa_cons (pv 2) pa_nil))))) (pss_one (ps_ret (pv 3))) pss_nil)))
    (pss_one (ps_ret (pe_un un_neg pe_int)))), ?_⟩
    obtain ⟨a, l, m, sz, S, rows, z, rfl, hD, hP, hl, hn, hx, hm, hz, k⟩ := h
    obtain ⟨as, q1, q2, q3⟩ := id hl
    refine q_forR1 (n := ((as.map V.ref).length : Int)) (ea_cons (ev_lenL (ev_var rfl) q1) ea_nil) (by rw [List.length_map, q2]; omega)
      (fun i σ' H' => Ex H H' ∧ (∀ j y, j < i → rows[j]? = some y → isIn S y z = false) ∧ ∃ v1, σ' = [some (.ref a), some (.ref l), some (.ref m), v1]) (fun H1 e1 => ⟨e1, fun j y hj => by omega, _, rfl⟩) ?_ ?_
    · rintro i σ' H' hi ⟨e, hb, v1, rfl⟩
      rw [List.length_map, q2] at hi
      have hr0 : rows[i]? = some (rows[i]'(by omega)) := List.getElem?_eq_getElem _
      have ha0 : as[i]? = some (as[i]'(by omega)) := List.getElem?_eq_getElem _
      generalize rows[i]'(by omega) = r at hr0
      generalize as[i]'(by omega) = ra at ha0
      have sr := q3 i ra r ha0 hr0
      refine s_when (et_B (ev_call (ea_cons (ev_var rfl) (ea_cons (ev_op (ev_var rfl) (ev_var rfl) (rv_ixL (ex_l e q1) (at_of rfl (by rw [List.getElem?_map, ha0]; rfl)))) (ea_cons (ev_var rfl) ea_nil))) (spv_is_in (hD.mono e) hP (ex_l e sr) (hx r (List.mem_of_getElem? hr0)) (hm.mono e) hz))) (fun tb H1 e1 => ?_) (fun tb H1 e1 => ?_)
      · rw [find_some hr0 tb hb] at k
        exact s_ret (ev_var rfl) fun H2 e2 => k H2 ((e.trans e1).trans e2)
      · refine ⟨e.trans e1, fun j y hj hy => ?_, _, rfl⟩
        by_cases c : j < i
        · exact hb j y c hy
        · have : j = i := by omega
          subst this
          rw [hr0] at hy
          have := Option.some.inj hy
          subst this
          exact tb
    · rintro σ' H' ⟨e, hb, v1, rfl⟩
      rw [List.length_map, q2] at hb
      rw [find_none (fun i x hx => hb i x (by have := (List.getElem?_eq_some_iff.mp hx).1; omega) hx)] at k
      exact s_ret (ev_un ev_c ru_neg) fun H2 e2 => k H2 (e.trans e2)
end
end Lead
namespace Lead
open PySem PySem.Spec PyProof.Rows L2 Evl LeadT
open GlaPlan
/-! ### dicts of pairs -/
def kP (d : Nat × Nat) : List Key := [Sum.inl ((d.1 : Nat) : Int), Sum.inl ((d.2 : Nat) : Int)]
theorem kP_inj {d e : Nat × Nat} (h : kP d = kP e) : d = e := by
  unfold kP at h
  injection h with h1 h2
  injection h2 with h2 _
  have h1 := Sum.inl.inj h1
  have h2 := Sum.inl.inj h2
  exact Prod.ext (by omega) (by omega)
def kt (ks : List (Nat × Nat)) : List (List Key × V) := ks.map fun d => (kP d, V.bl true)
theorem kt_val (ks : List (Nat × Nat)) (d : Nat × Nat) : (valV (kt ks) (kP d)).isSome = decide (d ∈ ks) := by
  rw [← valV_any, Bool.eq_iff_iff, List.any_eq_true]
  unfold kt
  simp only [List.mem_map, decide_eq_true_eq]
  constructor
  · rintro ⟨x, ⟨k, hk, rfl⟩, e⟩
    rw [← kP_inj e]
    exact hk
  · intro h
    exact ⟨_, ⟨d, h, rfl⟩, rfl⟩
def kAdd (ks : List (Nat × Nat)) (d : Nat × Nat) : List (Nat × Nat) := if d ∈ ks then ks else ks ++ [d]
theorem kt_put (ks : List (Nat × Nat)) (d : Nat × Nat) : putK (kt ks) (kP d) (V.bl true) = kt (kAdd ks d) := by
  unfold putK kAdd
  rw [valV_any, kt_val]
  by_cases c : d ∈ ks
  · rw [if_pos (decide_eq_true c), if_pos c]
    unfold kt
    rw [List.map_map]
    refine List.map_congr_left fun x _ => ?_
    show (if kP x = kP d then (kP x, V.bl true) else (kP x, V.bl true)) = _
    split <;> rfl
  · rw [if_neg (by simpa using c), if_neg c]
    unfold kt
    rw [List.map_append]
    rfl
theorem kAdd_mem {ks : List (Nat × Nat)} {d e : Nat × Nat} : e ∈ kAdd ks d ↔ e ∈ ks ∨ e = d := by
  unfold kAdd
  split
  · constructor
    · exact .inl
    · rintro (q | rfl)
      · exact q
      · assumption
  · rw [List.mem_append, List.mem_singleton]
theorem kAdd_nd {ks : List (Nat × Nat)} {d : Nat × Nat} (h : ks.Nodup) : (kAdd ks d).Nodup := by
  unfold kAdd
  split
  · exact h
  · rename_i c
    rw [List.nodup_append]
    refine ⟨h, by simp, fun x hx y hy => ?_⟩
    rw [List.mem_singleton] at hy
    subst hy
    rintro rfl
    exact c hx
section
variable {K : PySem.W.Frag} {σ : L2.St} {H H' : Hp} {ta tb te td tv ty : TE} {tr : TA} {D : Ends} {tu tz : TS} {g : TG} {a l d : Addr} {xs : List V} {v : V} {kvs : List (List Key × V)} {p : Z2}
theorem ev_dnotinT (hk : EvU ty σ H (vz p)) (hd : ∀ H1, Ex H H1 → Ev td σ H1 (.ref d)) (h : H d = some (.dT kvs)) : Ev (tDNotIn ty td) σ H (.bl (!(valV kvs [Sum.inl p.1, Sum.inl p.2]).isSome)) := fun H1 e Q q =>
  hk H1 e _ fun t H2 ht e2 h2 => hd H2 (e.trans e2) H2 (Ex.refl H2) _ fun H3 e3 => ⟨d, _, rfl, DGet.t (k := [Sum.inl p.1, Sum.inl p.2]) ((((e.trans e2).trans e3)) _ _ h) (e3 _ _ h2), q H3 (e2.trans e3)⟩
theorem ev_dinT (hk : EvU ty σ H (vz p)) (hd : ∀ H1, Ex H H1 → Ev td σ H1 (.ref d)) (h : H d = some (.dT kvs)) : Ev (tDIn ty td) σ H (.bl (valV kvs [Sum.inl p.1, Sum.inl p.2]).isSome) := fun H1 e Q q =>
  hk H1 e _ fun t H2 ht e2 h2 => hd H2 (e.trans e2) H2 (Ex.refl H2) _ fun H3 e3 => ⟨d, _, rfl, DGet.t (k := [Sum.inl p.1, Sum.inl p.2]) ((((e.trans e2).trans e3)) _ _ h) (e3 _ _ h2), q H3 (e2.trans e3)⟩
/-- d[t] = v, the key a pair that stands -/
theorem x_dputT {b : Addr} (hv : Ev tv σ H v) (hd : Ev td σ H (.ref d)) (hk : Ev ty σ H (.ref b)) (hb : H b = some (.tup (vz p))) (h : H d = some (.dT kvs)) (hl : kvs.length < sizeLine) (q : ∀ H1, Ex H H1 → D.nx σ (upd H1 d (.dT (putK kvs [Sum.inl p.1, Sum.inl p.2] v)))) : sDPut td ty tv D σ H :=
  hv H (Ex.refl H) _ fun H1 e1 => hd H1 e1 _ fun H2 e2 => hk H2 (e1.trans e2) _ fun H3 e3 => ⟨d, _, rfl, DPut.t (k := [Sum.inl p.1, Sum.inl p.2]) (((e1.trans e2).trans e3) _ _ h) (((e1.trans e2).trans e3) _ _ hb) hl, q H3 ((e1.trans e2).trans e3)⟩
/-- the key made on the way -/
theorem x_dputN (hv : Ev tv σ H v) (hd : Ev td σ H (.ref d)) (hk : EvU ty σ H (vz p)) (h : H d = some (.dT kvs)) (hl : kvs.length < sizeLine) (q : ∀ H1, Ex H H1 → D.nx σ (upd H1 d (.dT (putK kvs [Sum.inl p.1, Sum.inl p.2] v)))) : sDPut td ty tv D σ H :=
  hv H (Ex.refl H) _ fun H1 e1 => hd H1 e1 _ fun H2 e2 => hk H2 (e1.trans e2) _ fun b H3 _ e3 hb => ⟨d, _, rfl, DPut.t (k := [Sum.inl p.1, Sum.inl p.2]) (((e1.trans e2).trans e3) _ _ h) hb hl, q H3 ((e1.trans e2).trans e3)⟩
theorem y_dputN (hv : Ev tv σ H v) (hd : Ev td σ H (.ref d)) (hk : EvU ty σ H (vz p)) (h : H d = some (.dT kvs)) (hl : kvs.length < sizeLine) (q : ∀ H1, Ex H H1 → tz D σ (upd H1 d (.dT (putK kvs [Sum.inl p.1, Sum.inl p.2] v)))) : tSeq (sDPut td ty tv) tz D σ H := x_dputN (D := { D with nx := tz D }) hv hd hk h hl q
theorem PK.upd {ts : List Addr} {ps : List Z2} {o u : HO} (h : PK H ts ps) (ho : H l = some o) (n : ∀ w, o ≠ .tup w) : PK (upd H l u) ts ps := ⟨h.1, fun i b q x y => by
  have := h.2 i b q x y
  rw [upd_ne]
  · exact this
  · intro z
    rw [z, ho] at this
    exact n _ (Option.some.inj this)⟩
theorem NK.upd {ps : List Z2} {o u : HO} (h : NK H a ps) (ho : H l = some o) (n : ∀ w, o ≠ .tup w) (ne : a ≠ l) : NK (upd H l u) a ps := let ⟨ts, h1, h2⟩ := h; ⟨ts, by rw [upd_ne ne]; exact h1, h2.upd ho n⟩
/-- a display of pairs -/
def EvPK (ta : TA) (σ : L2.St) (H : Hp) (ps : List Z2) : Prop := ∀ H1, Ex H H1 → ∀ Q : List V → Hp → Prop, (∀ (ts : List Addr) H2, Ex H1 H2 → PK H2 ts ps → Q (ts.map V.ref) H2) → ta σ H1 Q
theorem epk_nil : EvPK tNil σ H [] := fun H1 e Q q => q [] H1 (Ex.refl H1) (PK.nil _)
theorem epk_cons {ps : List Z2} (h : EvU te σ H (vz p)) (hr : EvPK tr σ H ps) : EvPK (tCons te tr) σ H (p :: ps) := fun H1 e Q q =>
  h H1 e _ fun t H2 ht e2 h2 => hr H2 (e.trans e2) _ fun ts H3 e3 z => q (t :: ts) H3 (e2.trans e3) ⟨by simp [z.1], fun i b r x y => by
    cases i with
    | zero =>
      have := Option.some.inj x
      subst this
      have := Option.some.inj y
      subst this
      exact e3 _ _ h2
    | succ i => exact z.2 i b r (by simpa using x) (by simpa using y)⟩
theorem ek_lst {ps : List Z2} (h : EvPK tr σ H ps) (hl : ps.length ≤ 100000) : EvK (tLst tr) σ H ps := fun H1 e Q q =>
  h H1 e _ fun ts H2 e2 z => ⟨by rw [List.length_map, z.1]; exact sz_of hl, fun p hp => q p _ (fresh_back e2 hp) (e2.trans (Ex.new hp)) ⟨ts, upd_same, z.mono (Ex.new hp)⟩⟩
/-- the same, with the pairs' addresses -/
def NKt (H : Hp) (l : Addr) (ts : List Addr) (ps : List Z2) : Prop := H l = some (.lst (ts.map V.ref)) ∧ PK H ts ps
theorem NKt.mono {H H' : Hp} {l : Addr} {ts : List Addr} {ps : List Z2} (h : NKt H l ts ps) (e : Ex H H') : NKt H' l ts ps := ⟨e _ _ h.1, h.2.mono e⟩
theorem NKt.upd {ts : List Addr} {ps : List Z2} {o u : HO} (h : NKt H a ts ps) (ho : H l = some o) (n : ∀ w, o ≠ .tup w) (ne : a ≠ l) : NKt (upd H l u) a ts ps := ⟨by rw [upd_ne ne]; exact h.1, h.2.upd ho n⟩
/-- a loop over a new list of pairs whose turns may change other objects -/
theorem x_forM {ps : List Z2} {tl : TE} (h : EvK tl σ H ps) (Pv : Addr → List Addr → Nat → L2.St → Hp → Prop) (h0 : ∀ t ts H1, H t = none → Ex H H1 → NKt H1 t ts ps → Pv t ts 0 σ H1) (hl : ∀ t ts i σ' H', Pv t ts i σ' H' → NKt H' t ts ps)
    (hs : ∀ t ts i q p σ' H', ps[i]? = some p → H' q = some (.tup (vz p)) → Pv t ts i σ' H' → g (.ref q) σ' H' fun σ2 H2 => tu { D with nx := Pv t ts (i + 1), ct := Pv t ts (i + 1), bk := D.nx } σ2 H2) (hd : ∀ t ts σ' H', Pv t ts ps.length σ' H' → D.nx σ' H') : tFor (iList K tl) g tu D σ H :=
  h H (Ex.refl H) _ fun t H1 ht e hn => by
    obtain ⟨ts, z1, z2, z3⟩ := id hn
    have zl : (ts.map V.ref).length = ps.length := by rw [List.length_map, z2]
    refine ⟨t, rfl, ⟨_, sq_of z1⟩, for_list (xs := ts.map V.ref) (Pv t ts) (h0 t ts H1 ht e ⟨z1, z2, z3⟩) (fun i σ' H' _ q => sq_of (hl t ts i σ' H' q).1) (fun i x σ' H' hi q => ?_) (fun σ' H' q => hd t ts σ' H' (by rw [← zl]; exact q))⟩
    have lt : i < ts.length := by
      have := (List.getElem?_eq_some_iff.mp hi).1
      rwa [List.length_map] at this
    have hp : ps[i]? = some (ps[i]'(by omega)) := List.getElem?_eq_getElem (by omega)
    rw [List.getElem?_map, List.getElem?_eq_getElem lt] at hi
    have hi := Option.some.inj hi
    subst hi
    exact hs t ts i _ _ σ' H' hp ((hl t ts i σ' H' q).2.2 i _ _ (List.getElem?_eq_getElem lt) hp) q
theorem y_forM {ps : List Z2} {tl : TE} (h : EvK tl σ H ps) (Pv : Addr → List Addr → Nat → L2.St → Hp → Prop) (h0 : ∀ t ts H1, H t = none → Ex H H1 → NKt H1 t ts ps → Pv t ts 0 σ H1) (hl : ∀ t ts i σ' H', Pv t ts i σ' H' → NKt H' t ts ps)
    (hs : ∀ t ts i q p σ' H', ps[i]? = some p → H' q = some (.tup (vz p)) → Pv t ts i σ' H' → g (.ref q) σ' H' fun σ2 H2 => tu { D with nx := Pv t ts (i + 1), ct := Pv t ts (i + 1), bk := tz D } σ2 H2) (hd : ∀ t ts σ' H', Pv t ts ps.length σ' H' → tz D σ' H') : tSeq (tFor (iList K tl) g tu) tz D σ H :=
  x_forM (D := { D with nx := tz D }) h Pv h0 hl hs hd
end
/-! ### the search for outlines -/
structure OS (S : Plan) (H0 H : Hp) (d p : Addr) (es : List Addr) (ks : List (Nat × Nat)) (st : List (Nat × Nat) × List (List Nat)) : Prop where
  ex : Ex H0 H
  dn : H0 d = none
  pn : H0 p = none
  dp : d ≠ p
  dt : H d = some (.dT (kt ks))
  pl : H p = some (.lst (es.map V.ref))
  el : es.length = st.2.length
  at_ : ∀ (k : Nat) (e : Addr) (r : List Nat), es[k]? = some e → st.2[k]? = some r → H e = some (.lst (nv r))
  ne : ∀ e ∈ es, e ≠ p
  nd : ks.Nodup
  mem : ∀ x, x ∈ ks ↔ x ∈ st.1
  sub : ∀ x ∈ ks, x ∈ ways S
section
variable {S : Plan} {H0 H H' : Hp} {d p : Addr} {es : List Addr} {ks : List (Nat × Nat)} {st : List (Nat × Nat) × List (List Nat)}
theorem OS.mono (h : OS S H0 H d p es ks st) (e : Ex H H') : OS S H0 H' d p es ks st := ⟨h.ex.trans e, h.dn, h.pn, h.dp, e _ _ h.dt, e _ _ h.pl, h.el, fun k x r a b => e _ _ (h.at_ k x r a b), h.ne, h.nd, h.mem, h.sub⟩
theorem OS.len (h : OS S H0 H d p es ks st) : ks.length ≤ 2 * S.lines.length := by
  have := nodup_len h.nd (w := ways S) h.sub
  rwa [ways_len] at this
theorem OS.put (h : OS S H0 H d p es ks st) {x : Nat × Nat} (hx : x ∈ ways S) : OS S H0 (upd H d (.dT (kt (kAdd ks x)))) d p es (kAdd ks x) (st.1 ++ [x], st.2) := by
  refine ⟨Ex.mut h.ex h.dn, h.dn, h.pn, h.dp, upd_same, by rw [upd_ne h.dp.symm]; exact h.pl, h.el, fun k e r a b => ?_, h.ne, kAdd_nd h.nd, fun y => ?_, fun y hy => ?_⟩
  · have := h.at_ k e r a b
    rw [upd_ne]
    · exact this
    · intro z
      rw [z, h.dt] at this
      cases this
  · rw [kAdd_mem, h.mem, List.mem_append, List.mem_singleton]
  · rcases kAdd_mem.mp hy with q | rfl
    · exact h.sub y q
    · exact hx
theorem OS.app (h : OS S H0 H d p es ks st) {l : Addr} {r : List Nat} (hl : H l = some (.lst (nv r))) (ne : l ≠ p) : OS S H0 (upd H p (.lst (es.map V.ref ++ [.ref l]))) d p (es ++ [l]) ks (st.1, st.2 ++ [r]) := by
  refine ⟨Ex.mut h.ex h.pn, h.dn, h.pn, h.dp, by rw [upd_ne h.dp]; exact h.dt, by rw [upd_same, List.map_append]; rfl, by simp [h.el], fun k e r' a b => ?_, fun e he => ?_, h.nd, h.mem, h.sub⟩
  · by_cases c : k < es.length
    · rw [List.getElem?_append_left c] at a
      rw [List.getElem?_append_left (by rw [← h.el]; exact c)] at b
      rw [upd_ne (h.ne e (List.mem_of_getElem? a))]
      exact h.at_ k e r' a b
    · have lt := (List.getElem?_eq_some_iff.mp a).1
      rw [List.length_append] at lt
      have ek : k = es.length := by simp at lt; omega
      rw [List.getElem?_append_right (by omega), ek, Nat.sub_self] at a
      rw [List.getElem?_append_right (by rw [← h.el]; omega), ek, h.el, Nat.sub_self] at b
      have a := Option.some.inj a
      have b := Option.some.inj b
      subst a b
      rw [upd_ne ne]
      exact hl
  · rcases List.mem_append.mp he with q | q
    · exact h.ne e q
    · rw [List.mem_singleton.mp q]
      exact ne
theorem oStep_len (S : Plan) : ∀ (w : List (Nat × Nat)) (st : List (Nat × Nat) × List (List Nat)), (w.foldl (oStep S) st).2.length ≤ st.2.length + w.length
  | [], st => Nat.le_refl _
  | x :: w, st => by
    have := oStep_len S w (oStep S st x)
    have h2 : (oStep S st x).2.length ≤ st.2.length + 1 := by
      unfold oStep
      split
      · omega
      · dsimp only
        split
        · rw [List.length_append]
          exact Nat.le_refl _
        · omega
    rw [List.foldl_cons, List.length_cons]
    omega
end
/-- the ways of the first lines -/
def wpre (S : Plan) (i : Nat) : List (Nat × Nat) := (S.lines.take i).flatMap fun l => [l, (l.2, l.1)]
theorem wpre_len (S : Plan) (i : Nat) : (wpre S i).length ≤ 2 * S.lines.length := by
  unfold wpre
  have h1 : ∀ l : List (Nat × Nat), (l.flatMap fun l => [l, (l.2, l.1)]).length = 2 * l.length := by
    intro l
    induction l with
    | nil => rfl
    | cons x r ih =>
      rw [List.flatMap_cons, List.length_append, ih]
      simp only [List.length_cons, List.length_nil]
      omega
  rw [h1, List.length_take]
  omega
section
variable {P : Program} {w : World} {K : PySem.W.Frag} {mg : Str → Option Value} {base : Heap}
theorem spl_outl {C : Addr} {H : Hp} {a p : Addr} {sz : Nat} {S : Plan} {u v : Nat} (D : Dw K C H a sz S) (L : LL K H p (nbr S)) (O : Pre10 S) (h : Geo.adj (geoOf S) u v) : SpL (spOutl K C) [.ref a, .ref p, .int (u : Int), .int (v : Int)] H (nv (rd S (u, v))) :=
  fun H1 e Q q E => ⟨a, p, sz, S, u, v, rfl, D.mono e, L.mono e, O, h, q⟩
def spOuts (K : PySem.W.Frag) (C : Addr) : Sp := fun vs H Q _ => ∃ (a : Addr) (sz : Nat) (S : Plan), vs = [.ref a] ∧ Dw K C H a sz S ∧ Pre10 S ∧ ∀ p H', H p = none → Ex H H' → OL K H' p (outl S) → Q (.ref p) H'
theorem ok_outlines_of (T : Txt K mg) : FnOk P w K mg base CX0 6 T.outlines_of.f T.outlines_of.fd ["drawing"] (spOuts K T.Drawing.C) := by
  refine T.outlines_of.F.ok sc_outlines_of (fun vs H Q E h => ?_) (fun cdv A outer s H vs Q E hr h => ?_)
  · obtain ⟨a, sz, S, rfl, _⟩ := h
    rfl
  · refine ⟨_, (pss_cons (ps_set (i := 1) sc_outlines_of.nd rfl (.inl rfl) (pe_call (ok_neighbours_of T) (hr.mono (by decide)) rfl T.neighbours_of.g T.neighbours_of.F.kp T.neighbours_of.b .nil pass0 (pa_cons (pv 0) pa_nil)))
    (pss_cons (ps_set (i := 2) sc_outlines_of.nd rfl (.inl rfl) pe_dnewT)
    (pss_cons (ps_set (i := 3) sc_outlines_of.nd rfl (.inl rfl) (pe_lst pa_nil))
    (pss_cons (ps_for PassesOwn.never rfl (pi_list (pe_fld (pv 0) rfl)) (pg_tup rfl (pgs_cons (pg_name (i := 4) sc_outlines_of.nd rfl (Or.inl rfl)) (pgs_cons (pg_name (i := 5) sc_outlines_of.nd rfl (Or.inl rfl)) pgs_nil))) (pss_one (ps_for PassesOwn.never rfl (pi_list (pe_lst (pa_cons (pe_tup (pa_cons (pv 4) (pa_cons (pv 5) pa_nil))) (pa_cons (pe_tup (pa_cons (pv 5) (pa_cons (pv 4) pa_nil))) pa_nil)))) (pg_tup rfl (pgs_cons (pg_name (i := 6) sc_outlines_of.nd rfl (Or.inl rfl)) (pgs_cons (pg_name (i := 7) sc_outlines_of.nd rfl (Or.inl rfl)) pgs_nil))) (pss_one (ps_if (pt_cmp (pc_dnotin (hu_of hr) (pe_tup (pa_cons (pv 6) (pa_cons (pv 7) pa_nil))) (pv 2))) (pss_cons (ps_set (i := 8) sc_outlines_of.nd rfl (.inl rfl) (pe_call (ok_outline_from T) (hr.mono (by decide)) rfl T.outline_from.g T.outline_from.F.kp T.outline_from.b .nil pass0 (pa_cons (pv 0) (pa_cons (pv 1) (pa_cons (pv 6) (pa_cons (pv 7) pa_nil))))))
    (pss_cons (ps_for PassesOwn.never rfl (pi_list (pe_call (ok_sides_of T) (hr.mono (by decide)) rfl T.sides_of.g T.sides_of.F.kp T.sides_of.b .nil pass0 (pa_cons (pv 8) pa_nil))) (pg_name (i := 9) sc_outlines_of.nd rfl (Or.inl rfl)) (pss_one (ps_dput (hu_of hr) (pv 2) (pv 9) pe_bl rfl)))
    (pss_one (ps_if (pt_val (pe_call (ok_is_to_left T) (hr.mono (by decide)) rfl T.is_to_left.g T.is_to_left.F.kp T.is_to_left.b .nil pass0 (pa_cons (pv 0) (pa_cons (pv 8) pa_nil)))) (pss_one (ps_expr (pe_bm PySem.F.plainAttrs_list PySem.F.slot_list_append PySem.F.type_list_append mt_append (pv 3) (pa_cons (pv 8) pa_nil)))) pss_nil)))) pss_nil)))))
    (pss_one (ps_ret (pv 3))))))), ?_⟩
    obtain ⟨a, sz, S, rfl, hD0, hP, k⟩ := h
    have hD := hD0
    obtain ⟨dx, c, l1, l2, l3, D⟩ := hD
    have cl := T.Drawing.cl
    have nl := hP.p.t.2.1
    obtain ⟨ls, r1, r2, r3⟩ := id D.ls
    rw [List.length_map] at r2
    refine ⟨_, rfl, a, sz, S, rfl, hD0, hP.p, fun nb H1 nnb e1 hN => ?_⟩
    refine fun d nd => ?_
    have e2 : Ex H (upd H1 d (.dT [])) := e1.trans (Ex.new nd)
    have hd2 : (upd H1 d (.dT [])) d = some (.dT []) := upd_same
    have e12 : Ex H1 (upd H1 d (.dT [])) := Ex.new nd
    generalize upd H1 d (.dT []) = H2 at e2 hd2 e12
    refine q_asgL (xs := []) (el_lst ea_nil (by show 0 ≤ 100000; decide)) fun p H3 np e3 h3 => ?_
    have O0 : OS S H1 H3 d p [] [] ([], []) := ⟨e12.trans e3, nd, fresh_back e12 np, ne_of_none hd2 np, e3 _ _ hd2, h3, rfl, fun k e r x => by simp at x, by simp, List.nodup_nil, by simp, by simp⟩
    have e03 := e2.trans e3
    have two : ∀ x y : V, [x, y].length ≤ 100000 := fun _ _ => by show 2 ≤ 100000; decide
    refine q_forL (xs := ls.map V.ref) (ev_fld (ev_var rfl) (e03 _ _ D.ob) cl T.Drawing.na_lines dF_lines) (ex_l e03 r1)
      (fun m σ' H' => (∃ es ks, OS S H1 H' d p es ks ((wpre S m).foldl (oStep S) ([], []))) ∧ ∃ v4 v5 v6 v7 v8 v9, σ' = [some (.ref a), some (.ref nb), some (.ref d), some (.ref p), v4, v5, v6, v7, v8, v9]) (fun H4 e4 => ⟨⟨[], [], O0.mono e4⟩, _, _, _, _, _, _, rfl⟩) (fun m σ' H' _ q => ex_l (e1.trans q.1.choose_spec.choose_spec.ex) r1) ?_ ?_
    · rintro m x σ' H' hm ⟨⟨es, ks, hO⟩, v4, v5, v6, v7, v8, v9, rfl⟩
      have lm : m < S.lines.length := by
        have := (List.getElem?_eq_some_iff.mp hm).1
        rw [List.length_map] at this
        omega
      have hm0 : S.lines[m]? = some S.lines[m] := List.getElem?_eq_getElem lm
      generalize S.lines[m] = y at hm0
      obtain ⟨u, hu, huz⟩ := PtL.at_ (l := l2) (by rw [List.length_map]; exact r2) r3 (map_at (f := lnZ) hm0)
      rw [hu] at hm
      have hm := Option.some.inj hm
      subst hm
      have ym := List.mem_of_getElem? hm0
      have wp : wpre S (m + 1) = wpre S m ++ [y, (y.2, y.1)] := by
        unfold wpre
        rw [take_snoc hm0, List.flatMap_append]
        simp
      refine ⟨u, _, rfl, huz.mono (e1.trans hO.ex), rfl, _, _, rfl, _, _, rfl, rfl, ?_⟩
      refine x_forM (ps := [y, (y.2, y.1)].map lnZ) (ek_lst (epk_cons (eu_tup (ea_cons (ev_var rfl) (ea_cons (ev_var rfl) ea_nil)) (two _ _)) (epk_cons (eu_tup (ea_cons (ev_var rfl) (ea_cons (ev_var rfl) ea_nil)) (two _ _)) epk_nil)) (by show 2 ≤ 100000; decide))
        (fun t ts j σ' H' => (∃ es ks, OS S H1 H' d p es ks ((wpre S m ++ [y, (y.2, y.1)].take j).foldl (oStep S) ([], []))) ∧ NKt H' t ts ([y, (y.2, y.1)].map lnZ) ∧ t ≠ p ∧ ∃ v6 v7 v8 v9, σ' = [some (.ref a), some (.ref nb), some (.ref d), some (.ref p), some (.int (y.1 : Int)), some (.int (y.2 : Int)), v6, v7, v8, v9])
        (fun t ts H4 nt e4 hn => ⟨⟨es, ks, by rw [List.take_zero, List.append_nil]; exact hO.mono e4⟩, hn, (ne_of_none hO.pl nt).symm, _, _, _, _, rfl⟩) (fun t ts j σ' H' q => q.2.1) ?_ ?_
      · rintro t ts j q pq σ' H4 hj hq ⟨⟨es, ks, hO⟩, hn, tp, v6, v7, v8, v9, rfl⟩
        rw [List.getElem?_map] at hj
        obtain ⟨x, hx, rfl⟩ := Option.map_eq_some_iff.mp hj
        have xa : Geo.adj (geoOf S) x.1 x.2 := by
          have := List.mem_of_getElem? hx
          rcases List.mem_cons.mp this with rfl | q
          · exact .inl ym
          · rw [List.mem_singleton.mp q]
            exact .inr ym
        have nx : (wpre S m ++ [y, (y.2, y.1)].take (j + 1)).foldl (oStep S) ([], []) = oStep S ((wpre S m ++ [y, (y.2, y.1)].take j).foldl (oStep S) ([], [])) x := by
          rw [take_snoc hx, ← List.append_assoc, List.foldl_append]
          rfl
        have sl := oStep_len S (wpre S m ++ [y, (y.2, y.1)].take j) ([], [])
        have wl := wpre_len S m
        rw [List.length_append, List.length_take] at sl
        have sl : ((wpre S m ++ [y, (y.2, y.1)].take j).foldl (oStep S) ([], [])).2.length < 100000 := by
          simp only [List.length_cons, List.length_nil] at sl
          omega
        generalize (wpre S m ++ [y, (y.2, y.1)].take j).foldl (oStep S) ([], []) = st at hO nx sl
        refine ⟨q, _, rfl, P2.of hq, rfl, _, _, rfl, _, _, rfl, rfl, ?_⟩
        have ox := Outn.rd hP xa
        refine s_when (et_B (ev_dnotinT (p := lnZ x) (eu_tup (ea_cons (ev_var rfl) (ea_cons (ev_var rfl) ea_nil)) (two _ _)) (fun H5 e5 => ev_var rfl) hO.dt)) (fun tb H5 e5 => ?_) (fun tb H5 e5 => ?_)
        · have tb : (!(valV (kt ks) (kP x)).isSome) = true := tb
          rw [kt_val, Bool.not_eq_true', decide_eq_false_iff_not, hO.mem] at tb
          have os : oStep S st x = (st.1 ++ sides (rd S x), if 0 < twiceArea S (rd S x) then st.2 ++ [rd S x] else st.2) := by
            unfold oStep
            rw [if_neg tb]
          have hO := hO.mono e5
          have hn := hn.mono e5
          refine q_asgL (el_call (ea_cons (ev_var rfl) (ea_cons (ev_var rfl) (ea_cons (ev_var rfl) (ea_cons (ev_var rfl) ea_nil)))) (spl_outl (hD0.mono (e1.trans hO.ex)) (hN.mono hO.ex) hP xa)) fun l H6 nl e6 hl => ?_
          have lp : l ≠ p := (ne_of_none hO.pl nl).symm
          have ld : l ≠ d := (ne_of_none hO.dt nl).symm
          have hO := hO.mono e6
          have hn := hn.mono e6
          refine y_forM (ps := (sides (rd S x)).map lnZ) (ek_call (ea_cons (ev_var rfl) ea_nil) (sp_sides (sq_of hl) ox.pos ox.len))
            (fun t2 ts2 k σ' H' => (∃ ks, OS S H1 H' d p es ks (st.1 ++ (sides (rd S x)).take k, st.2)) ∧ NKt H' t2 ts2 ((sides (rd S x)).map lnZ) ∧ NKt H' t ts ([y, (y.2, y.1)].map lnZ) ∧ H' l = some (.lst (nv (rd S x))) ∧
              ∃ v9, σ' = [some (.ref a), some (.ref nb), some (.ref d), some (.ref p), some (.int (y.1 : Int)), some (.int (y.2 : Int)), some (.int (x.1 : Int)), some (.int (x.2 : Int)), some (.ref l), v9])
            (fun t2 ts2 H7 nt2 e7 hn2 => ⟨⟨ks, by rw [List.take_zero, List.append_nil]; exact hO.mono e7⟩, hn2, hn.mono e7, e7 _ _ hl, _, rfl⟩) (fun t2 ts2 k σ' H' q => q.2.1) ?_ ?_
          · rintro t2 ts2 k q2 p2 σ' H7 hk hq2 ⟨⟨ks, hO⟩, hn2, hn, hl, v9, rfl⟩
            rw [List.getElem?_map] at hk
            obtain ⟨z, hz, rfl⟩ := Option.map_eq_some_iff.mp hk
            have zw : z ∈ ways S := by
              obtain ⟨n, n1, R⟩ := hP.g.orb xa
              have := List.mem_of_getElem? hz
              rw [sides_rd R n1] at this
              exact mem_ways.mpr (Geo.orb_adj hP.g.nxs xa z this)
            have kl : (kt ks).length < sizeLine := by
              unfold kt
              rw [List.length_map]
              have := hO.len
              exact sz_lt (by omega)
            refine x_dputT (p := lnZ z) ev_c (ev_var rfl) (ev_var rfl) hq2 hO.dt kl fun H8 e8 => ?_
            have kp : putK (kt ks) [Sum.inl (lnZ z).1, Sum.inl (lnZ z).2] (V.bl true) = kt (kAdd ks z) := kt_put ks z
            rw [kp]
            have hO8 := hO.mono e8
            have nd2 : ∀ {b : Addr} {ys : List V}, H8 b = some (.lst ys) → b ≠ d := by
              intro b ys hb z
              rw [z, hO8.dt] at hb
              cases hb
            have hn2 := hn2.mono e8
            have hn := hn.mono e8
            refine ⟨⟨kAdd ks z, ?_⟩, hn2.upd hO8.dt (fun _ z => by cases z) (nd2 hn2.1), hn.upd hO8.dt (fun _ z => by cases z) (nd2 hn.1), by rw [upd_ne ld]; exact e8 _ _ hl, _, rfl⟩
            have := hO8.put zw
            rw [take_snoc hz, ← List.append_assoc]
            exact this
          · rintro t2 ts2 σ' H7 ⟨⟨ks, hO⟩, hn2, hn, hl, v9, rfl⟩
            rw [List.length_map, List.take_length] at hO
            refine s_when (et_B (ev_call (ea_cons (ev_var rfl) (ea_cons (ev_var rfl) ea_nil)) (spv_left (hD0.mono (e1.trans hO.ex)) hP.p (sq_of hl) ox))) (fun ta H8 e8 => ?_) (fun ta H8 e8 => ?_)
            · have hO := hO.mono e8
              refine s_app hO.pl (ev_var rfl) (ev_var rfl) (by rw [List.length_map, hO.el]; exact sl) fun H9 e9 => ?_
              have hO := hO.mono e9
              have hn := (hn.mono e8).mono e9
              refine ⟨⟨es ++ [l], ks, ?_⟩, hn.upd hO.pl (fun _ z => by cases z) tp, tp, _, _, _, _, rfl⟩
              rw [nx, os, if_pos (of_decide_eq_true ta)]
              exact hO.app (e9 _ _ (e8 _ _ hl)) lp
            · refine ⟨⟨es, ks, ?_⟩, hn.mono e8, tp, _, _, _, _, rfl⟩
              rw [nx, os, if_neg (of_decide_eq_false ta)]
              exact hO.mono e8
        · have tb : (!(valV (kt ks) (kP x)).isSome) = false := tb
          rw [kt_val, Bool.not_eq_false', decide_eq_true_iff, hO.mem] at tb
          refine ⟨⟨es, ks, ?_⟩, hn.mono e5, tp, _, _, _, _, rfl⟩
          rw [nx]
          unfold oStep
          rw [if_pos tb]
          exact hO.mono e5
      · rintro t ts σ' H4 ⟨⟨es, ks, hO⟩, hn, tp, v6, v7, v8, v9, rfl⟩
        refine ⟨⟨es, ks, ?_⟩, _, _, _, _, _, _, rfl⟩
        rw [wp]
        rw [List.length_map, List.take_length] at hO
        exact hO
    · rintro σ' H' ⟨⟨es, ks, hO⟩, v4, v5, v6, v7, v8, v9, rfl⟩
      have full : wpre S (ls.map V.ref).length = ways S := by
        unfold wpre ways
        rw [List.length_map, r2, List.take_length]
      rw [full] at hO
      refine s_ret (ev_var rfl) fun H4 e4 => ?_
      have hO := hO.mono e4
      exact k p H4 (fresh_back e1 hO.pn) (e1.trans hO.ex) ⟨es, sq_of hO.pl, hO.el, fun i x r h1 h2 => sq_of (hO.at_ i x r h1 h2)⟩
end
end Lead
namespace Lead
open PySem PySem.Spec PyProof.Rows L2 Evl LeadT
open GlaPlan
section
variable {P : Program} {w : World} {K : PySem.W.Frag} {mg : Str → Option Value} {base : Heap}
def spOnL (K : PySem.W.Frag) (C : Addr) : Sp := fun vs H Q _ => ∃ (a m : Addr) (sz : Nat) (S : Plan) (z : Pt), vs = [.ref a, .ref m] ∧ Dw K C H a sz S ∧ Pre5 S ∧ P2 K H m (ptZ z) ∧ sml (ptZ z) ∧ RetV (.bl (onLines S z)) H Q
theorem ok_is_on_line (T : Txt K mg) : FnOk P w K mg base CX0 3 T.is_on_line.f T.is_on_line.fd ["drawing", "mark"] (spOnL K T.Drawing.C) := by
  refine T.is_on_line.F.ok sc_is_on_line (fun vs H Q E h => ?_) (fun cdv A outer s H vs Q E hr h => ?_)
  · obtain ⟨a, m, sz, S, z, rfl, _⟩ := h
    rfl
  · refine ⟨_, (pss_cons (ps_for PassesOwn.never rfl (pi_list (pe_fld (pv 0) rfl)) (pg_tup rfl (pgs_cons (pg_name (i := 2) sc_is_on_line.nd rfl (Or.inl rfl)) (pgs_cons (pg_name (i := 3) sc_is_on_line.nd rfl (Or.inl rfl)) pgs_nil))) (pss_one (ps_if (pt_val (pe_call (ok_is_on T) (hr.mono (by decide)) rfl T.is_on.g T.is_on.F.kp T.is_on.b .nil pass0 (pa_cons (pe_ix ix_list (pe_fld (pv 0) rfl) (pv 2) (fun _ _ => rfl)) (pa_cons (pe_ix ix_list (pe_fld (pv 0) rfl) (pv 3) (fun _ _ => rfl)) (pa_cons (pv 1) pa_nil))))) (pss_one (ps_ret pe_bl)) pss_nil)))
    (pss_one (ps_ret pe_bl))), ?_⟩
    obtain ⟨a, m, sz, S, z, rfl, hD, hP, hm, hz, k⟩ := h
    obtain ⟨dx, c, l1, l2, l3, D⟩ := hD
    have cl := T.Drawing.cl
    obtain ⟨ls, r1, r2, r3⟩ := id D.ls
    rw [List.length_map] at r2
    refine q_forL (xs := ls.map V.ref) (ev_fld (ev_var rfl) D.ob cl T.Drawing.na_lines dF_lines) r1
      (fun i σ' H' => Ex H H' ∧ (∀ j y, j < i → S.lines[j]? = some y → isOn (S.pt y.1) (S.pt y.2) z = false) ∧ ∃ v1 v2, σ' = [some (.ref a), some (.ref m), v1, v2]) (fun H1 e1 => ⟨e1, fun j y hj => by omega, _, _, rfl⟩) (fun i σ' H' _ q => ex_l q.1 r1) ?_ ?_
    · rintro i x σ' H' hi ⟨e, hb, v1, v2, rfl⟩
      have li : i < S.lines.length := by
        have := (List.getElem?_eq_some_iff.mp hi).1
        rw [List.length_map] at this
        omega
      have hi0 : S.lines[i]? = some S.lines[i] := List.getElem?_eq_getElem li
      generalize S.lines[i] = y at hi0
      obtain ⟨u, hu, huz⟩ := PtL.at_ (l := l2) (by rw [List.length_map]; exact r2) r3 (map_at (f := lnZ) hi0)
      rw [hu] at hi
      have hi := Option.some.inj hi
      subst hi
      have yl := hP.line_lt (List.mem_of_getElem? hi0)
      have g1 : y.1 < S.pts.length := by omega
      have g2 : y.2 < S.pts.length := by omega
      refine ⟨u, _, rfl, huz.mono e, rfl, _, _, rfl, _, _, rfl, rfl, ?_⟩
      obtain ⟨p1, hp1, ev1⟩ := ev_dpt (σ := [some (.ref a), some (.ref m), some (.int (y.1 : Int)), some (.int (y.2 : Int))]) (ta := tVar 0) (tb := tVar 2) (D.mono e) cl T.Drawing.na_points (ev_var rfl) (ev_var rfl) rfl g1
      obtain ⟨p2, hp2, ev2⟩ := ev_dpt (σ := [some (.ref a), some (.ref m), some (.int (y.1 : Int)), some (.int (y.2 : Int))]) (ta := tVar 0) (tb := tVar 3) (D.mono e) cl T.Drawing.na_points (ev_var rfl) (ev_var rfl) rfl g2
      refine s_when (et_B (ev_call (ea_cons ev1 (ea_cons ev2 (ea_cons (ev_var rfl) ea_nil))) (spv_is_on hp1 hp2 (hm.mono e) ⟨hP.sm g1, hP.sm g2, hz⟩))) (fun tb H1 e1 => ?_) (fun tb H1 e1 => ?_)
      · rw [isOn_pt] at tb
        have : onLines S z = true := by
          unfold onLines
          rw [List.any_eq_true]
          exact ⟨y, List.mem_of_getElem? hi0, tb⟩
        rw [this] at k
        exact s_ret ev_c fun H2 e2 => k H2 ((e.trans e1).trans e2)
      · rw [isOn_pt] at tb
        refine ⟨e.trans e1, fun j y' hj hy => ?_, _, _, rfl⟩
        by_cases c : j < i
        · exact hb j y' c hy
        · have : j = i := by omega
          subst this
          rw [hi0] at hy
          have := Option.some.inj hy
          subst this
          exact tb
    · rintro σ' H' ⟨e, hb, v1, v2, rfl⟩
      rw [List.length_map, r2] at hb
      have : onLines S z = false := by
        unfold onLines
        rw [List.any_eq_false]
        intro y hy
        obtain ⟨j, hj⟩ := List.getElem?_of_mem hy
        rw [hb j y (List.getElem?_eq_some_iff.mp hj).1 hj]
        decide
      rw [this] at k
      exact s_ret ev_c fun H2 e2 => k H2 (e.trans e2)
theorem spv_onl {C : Addr} {H : Hp} {a m : Addr} {sz : Nat} {S : Plan} {z : Pt} (D : Dw K C H a sz S) (O : Pre5 S) (hm : P2 K H m (ptZ z)) (hz : sml (ptZ z)) : SpV (spOnL K C) [.ref a, .ref m] H (.bl (onLines S z)) := fun H1 e Q q E => ⟨a, m, sz, S, z, rfl, D.mono e, O, hm.mono e, hz, q⟩
abbrev bad11 (S : Plan) : Nat → Mark → Bool := badF (markOk S) markBelow S.marks
theorem f11_eq (S : Plan) : f11 S = (GlaBase.firstAt (bad11 S) S.marks).map fun i => ⟨11, markPlace S i⟩ := by
  unfold f11
  rw [firstBad_eq]
theorem clear_sml {S : Plan} (O : Pre5 S) {z : Pt} (h : (decide (0 < z.x) && decide (z.x < S.w) && (decide (0 < z.y) && decide (z.y < S.h))) = true) : sml (ptZ z) := by
  simp only [Bool.and_eq_true, decide_eq_true_eq] at h
  have := O.w
  have := O.h
  unfold sml ptZ
  dsimp only
  omega
theorem ok_check_marks (T : Txt K mg) : FnOk P w K mg base (L2.CX P w) 4 T.check_marks.f T.check_marks.fd ["drawing"] (spChk K T.Drawing.C T.x_NoCartoon.C Pre5 fun S _ => f11 S) := by
  refine T.check_marks.F.okX sc_check_marks (fun vs H Q E h => ?_) (fun cdv A outer s H vs Q E hr h => ?_)
  · obtain ⟨a, sz, S, rfl, _⟩ := h
    rfl
  · refine ⟨_, (pss_one (ps_for (passes_of rfl) rfl (pi_enum (by rfl) T.n_enumerate (pa_cons (pe_fld (pv 0) rfl) pa_nil)) (pg_tup rfl (pgs_cons (pg_name (i := 1) sc_check_marks.nd rfl (Or.inl rfl)) (pgs_cons (pg_name (i := 2) sc_check_marks.nd rfl (Or.inl rfl)) pgs_nil))) (pss_cons (ps_set (i := 3) sc_check_marks.nd rfl (.inl rfl) (pe_and (pe_chain op_lt op_lt pe_int (pe_ix ix_tup (pv 2) pe_int (fun _ _ => rfl)) (pe_fld (pv 0) rfl)) (pe_one (pe_chain op_lt op_lt pe_int (pe_ix ix_tup (pv 2) pe_int (fun _ _ => rfl)) (pe_fld (pv 0) rfl)))))
    (pss_cons (ps_if (pt_cmpR op_gt (pv 1) pe_int (nomark _)) (pss_one (ps_set (i := 3) sc_check_marks.nd rfl (.inl rfl) (pe_and (pv 3) (pe_one (pe_call (ok_comes_behind T) (hr.mono (by decide)) rfl T.comes_behind.g T.comes_behind.F.kp T.comes_behind.b .nil pass0 (pa_cons (pv 2) (pa_cons (pe_ix ix_list (pe_fld (pv 0) rfl) (pe_op op_sub (pv 1) pe_int) (fun _ _ => rfl)) pa_nil))))))) pss_nil)
    (pss_one (ps_expr (pe_call (ok_ask T) (hr.mono (by decide)) rfl T.ask.g T.ask.F.kp T.ask.b .nil (passes_call (takes_of rfl rfl rfl rfl) (fun _ _ _ _ h => h)) (pa_cons (pe_and (pv 3) (pe_one (pe_not (pe_call (ok_is_on_line T) (hr.mono (by decide)) rfl T.is_on_line.g T.is_on_line.F.kp T.is_on_line.b .nil pass0 (pa_cons (pv 0) (pa_cons (pv 2) pa_nil)))))) (pa_cons pe_int (pa_cons (pe_meth (pv 0) T.Drawing.cl T.Drawing.mark_place.m (ok_Drawing_mark_place T) (hr.mono (by decide)) T.Drawing.mark_place.b .nil pass0 (pa_cons (pv 1) pa_nil)) pa_nil)))))))))), ?_⟩
    obtain ⟨a, sz, S, rfl, hD, hP, ⟨kE, kO⟩⟩ := h
    have hD0 := hD
    have ct := hD.ct
    obtain ⟨dx, c, l1, l2, l3, D⟩ := hD
    have cl := T.Drawing.cl
    obtain ⟨as, q1, q2, q3⟩ := id D.ms
    rw [List.length_map] at q2
    refine x_forE (ev_fld (ev_var rfl) D.ob cl T.Drawing.na_marks dF_marks) q1 (fun i σ' H' => Ex H H' ∧ (∀ j y, j < i → S.marks[j]? = some y → bad11 S j y = false) ∧ ∃ v1 v2 v3, σ' = [some (.ref a), v1, v2, v3])
      (fun H1 e1 => ⟨e1, fun j y hj => by omega, none, none, none, rfl⟩) (fun i σ' H' _ p => ex_l p.1 q1) ?_ ?_
    · rintro i x σ' H' hi ⟨e, hb, v1, v2, v3, rfl⟩ H2 e2
      have e2 := e.trans e2
      have lt : i < S.marks.length := by
        have := (List.getElem?_eq_some_iff.mp hi).1
        rw [List.length_map] at this
        omega
      have hpt : S.marks[i]? = some S.marks[i] := List.getElem?_eq_getElem lt
      generalize S.marks[i] = m at hpt
      obtain ⟨q, hq, hz⟩ := PtL.at_ (l := l3) (by rw [List.length_map]; exact q2) q3 (map_at (f := mkZ) hpt)
      rw [hi] at hq
      have hq := Option.some.inj hq
      subst hq
      have fin : ∀ (b : Bool) (H3 : Hp), Ex H H3 → (b = true → sml (ptZ m.at_)) → (b && !onLines S m.at_) = (!bad11 S i m) → tDrop (tCall (spAsk T.x_NoCartoon.C) [] E (tCons (tAndV (tVar 3) (tNotV (tCall (spOnL K T.Drawing.C) [] E0 (tCons (tVar 0) (tCons (tVar 2) tNil))))) (tCons (tC (.int 11)) (tCons (tMeth T.Drawing.C "mark_place" (spPl K T.Drawing.C gMp) [] E0 (tVar 0) (tCons (tVar 1) tNil)) tNil))))
          { nx := fun σ' H' => Ex H H' ∧ (∀ j y, j < i + 1 → S.marks[j]? = some y → bad11 S j y = false) ∧ ∃ v1 v2 v3, σ' = [some (.ref a), v1, v2, v3], ct := fun σ' H' => Ex H H' ∧ (∀ j y, j < i + 1 → S.marks[j]? = some y → bad11 S j y = false) ∧ ∃ v1 v2 v3, σ' = [some (.ref a), v1, v2, v3], bk := fun _ H' => Q .non H', rt := Q }
          [some (.ref a), some (.int (i : Nat)), some (.ref q), some (.bl b)] H3 := by
        intro b H3 e3 hs hbb
        refine x_ask (ea_cons (ev_andV (ev_var rfl) fun bt => ev_notV (ev_call (ea_cons (ev_var rfl) (ea_cons (ev_var rfl) ea_nil)) (spv_onl (hD0.mono e3) hP (hz.mono e3) (hs bt)))) (ea_cons ev_c (ea_cons (ev_meth (ev_var rfl) (e3 _ _ D.ob) dF_no (ea_cons (ev_var rfl) ea_nil) (spv_pl (ct.mono e3) rfl)) ea_nil))) (fun t => ?_) (fun t H4 e4 => ⟨e3.trans e4, fun j y hj hy => ?_, _, _, _, rfl⟩)
        · rw [hbb] at t
          have bt : bad11 S i m = true := by simpa using t
          have ff := firstAt_some hpt bt (fun j y hj hy => hb j y hj hy)
          exact (kE ⟨11, markPlace S i⟩ (by show f11 S = _; rw [f11_eq, ff]; rfl)).mono e3
        · by_cases c : j < i
          · exact hb j y c hy
          · have : j = i := by omega
            subst this
            rw [hpt] at hy
            have := Option.some.inj hy
            subst this
            rw [hbb] at t
            simpa using t
      refine q_asg (ev_andV (ev_chain ev_c (ev_p0 (ev_var rfl) (hz.mono e2)) rv_I0 (fun _ => ev_fld (ev_var rfl) (e2 _ _ D.ob) cl T.Drawing.na_width dF_width) (fun _ => rv_I0)) fun _ => (ev_chain ev_c (ev_p1 (ev_var rfl) (hz.mono e2)) rv_I0 (fun _ => ev_fld (ev_var rfl) (e2 _ _ D.ob) cl T.Drawing.na_height dF_height) (fun _ => rv_I0))) fun H3 e3 => ?_
      have e3 := e2.trans e3
      have gd : (decide ((0 : Int) < (mkZ m).1) && decide ((mkZ m).1 < (S.w : Int)) && (decide ((0 : Int) < (mkZ m).2) && decide ((mkZ m).2 < (S.h : Int)))) = (decide (0 < m.at_.x) && decide (m.at_.x < S.w) && (decide (0 < m.at_.y) && decide (m.at_.y < S.h))) := by
        unfold mkZ ptZ
        rw [Bool.eq_iff_iff]
        simp
      have mk : markOk S m = ((decide (0 < m.at_.x) && decide (m.at_.x < S.w) && (decide (0 < m.at_.y) && decide (m.at_.y < S.h))) && !onLines S m.at_) := by
        unfold markOk clear
        rw [Bool.eq_iff_iff]
        simp [and_assoc]
      refine y_when (et_test (ev_op (ev_var rfl) ev_c rv_I0)) (fun t H4 e4 => ?_) (fun t H4 e4 => ?_)
      · have e4 := e3.trans e4
        have ip : 0 < i := by
          have := of_decide_eq_true t
          omega
        have hpv : S.marks[i - 1]? = some (S.marks[i - 1]'(by omega)) := List.getElem?_eq_getElem (by omega)
        generalize S.marks[i - 1]'(by omega) = m0 at hpv
        obtain ⟨u, hu, huz⟩ := PtL.at_ (l := l3) (by rw [List.length_map]; exact q2) q3 (map_at (f := mkZ) hpv)
        refine s_asg (ev_andV (ev_var rfl) fun _ => (ev_call (ea_cons (ev_var rfl) (ea_cons (ev_op (ev_fld (ev_var rfl) (e4 _ _ D.ob) cl T.Drawing.na_marks dF_marks) (ev_op (ev_var rfl) ev_c rv_I0) (rv_ixL (ex_l e4 q1) (at_of (j := i - 1) (by omega) hu))) ea_nil)) (spv_behind (hz.mono e4) (huz.mono e4)))) fun H5 e5 => ?_
        refine fin _ H5 (e4.trans e5) (fun bt => ?_) ?_
        · rw [gd, Bool.and_eq_true] at bt
          exact clear_sml hP bt.1
        · rw [badF_prev ip hpv, gd, mk]
          have : behindZ (mkZ m) (mkZ m0) = markBelow m0 m := behind_pt _ _
          rw [this]
          generalize (decide (0 < m.at_.x) && decide (m.at_.x < S.w) && (decide (0 < m.at_.y) && decide (m.at_.y < S.h))) = g1
          generalize markBelow m0 m = g2
          generalize onLines S m.at_ = g3
          cases g1 <;> cases g2 <;> cases g3 <;> rfl
      · have e4 := e3.trans e4
        have ip : ¬ 0 < i := by
          have := of_decide_eq_false t
          omega
        refine fin _ H4 e4 (fun bt => ?_) ?_
        · rw [gd] at bt
          exact clear_sml hP bt
        · rw [badF_first ip, gd, mk]
    · rintro σ' H' ⟨e, hb, v1, v2, v3, rfl⟩
      refine kO ?_ H' e
      show f11 S = none
      rw [f11_eq, firstAt_none.mpr fun i x hx => hb i x (by rw [List.length_map, q2]; exact (List.getElem?_eq_some_iff.mp hx).1) hx]
      rfl
/-- the rules 12 and 13 -/
def fPanes (S : Plan) (sz : Nat) : Option GlaBase.Fault := andThen (f12 S) (if S.marks.length < S.outlines.length then some ⟨13, sz⟩ else none)
abbrev PreM : Plan → Prop := fun S => Pre10 S ∧ ∀ m ∈ S.marks, clear S m.at_ = true
theorem f11_clear {S : Plan} (h : f11 S = none) : ∀ m ∈ S.marks, clear S m.at_ = true := by
  unfold f11 at h
  rw [Option.map_eq_none_iff] at h
  intro m hm
  obtain ⟨i, hi⟩ := List.getElem?_of_mem hm
  exact (firstBad_none.mp h).1 i m hi
theorem clear_sm {S : Plan} (O : Pre5 S) {z : Pt} (h : clear S z = true) : sml (ptZ z) := by
  refine clear_sml O ?_
  unfold clear at h
  simp only [Bool.and_eq_true, decide_eq_true_eq] at h ⊢
  omega
theorem outl_len (S : Plan) : (outl S).length ≤ 2 * S.lines.length := by
  have := oStep_len S (ways S) ([], [])
  rw [ways_len] at this
  exact (Nat.le_trans this (by simp))
theorem ok_check_panes (T : Txt K mg) : FnOk P w K mg base (L2.CX P w) 7 T.check_panes.f T.check_panes.fd ["drawing"] (spChk K T.Drawing.C T.x_NoCartoon.C PreM fPanes) := by
  refine T.check_panes.F.okX sc_check_panes (fun vs H Q E h => ?_) (fun cdv A outer s H vs Q E hr h => ?_)
  · obtain ⟨a, sz, S, rfl, _⟩ := h
    rfl
  · refine ⟨_, (pss_cons (ps_set (i := 1) sc_check_panes.nd rfl (.inl rfl) (pe_call (ok_outlines_of T) (hr.mono (by decide)) rfl T.outlines_of.g T.outlines_of.F.kp T.outlines_of.b .nil pass0 (pa_cons (pv 0) pa_nil)))
    (pss_cons (ps_set (i := 2) sc_check_panes.nd rfl (.inl rfl) pe_dnewK)
    (pss_cons (ps_for (passes_of rfl) rfl (pi_enum (by rfl) T.n_enumerate (pa_cons (pe_fld (pv 0) rfl) pa_nil)) (pg_tup rfl (pgs_cons (pg_name (i := 3) sc_check_panes.nd rfl (Or.inl rfl)) (pgs_cons (pg_name (i := 4) sc_check_panes.nd rfl (Or.inl rfl)) pgs_nil))) (pss_cons (ps_set (i := 5) sc_check_panes.nd rfl (.inl rfl) (pe_call (ok_pane_of T) (hr.mono (by decide)) rfl T.pane_of.g T.pane_of.F.kp T.pane_of.b .nil pass0 (pa_cons (pv 0) (pa_cons (pv 1) (pa_cons (pv 4) pa_nil)))))
    (pss_cons (ps_expr (pe_call (ok_ask T) (hr.mono (by decide)) rfl T.ask.g T.ask.F.kp T.ask.b .nil (passes_call (takes_of rfl rfl rfl rfl) (fun _ _ _ _ h => h)) (pa_cons (pe_cmp (pc_dnotin (hu_of hr) (pv 5) (pv 2))) (pa_cons pe_int (pa_cons (pe_meth (pv 0) T.Drawing.cl T.Drawing.mark_place.m (ok_Drawing_mark_place T) (hr.mono (by decide)) T.Drawing.mark_place.b .nil pass0 (pa_cons (pv 3) pa_nil)) pa_nil)))))
    (pss_one (ps_dput (hu_of hr) (pv 2) (pv 5) pe_bl rfl)))))
    (pss_one (ps_expr (pe_call (ok_ask T) (hr.mono (by decide)) rfl T.ask.g T.ask.F.kp T.ask.b .nil (passes_call (takes_of rfl rfl rfl rfl) (fun _ _ _ _ h => h)) (pa_cons (pe_cmpR op_eq (pe_callB call_lenD (by rfl) T.n_len PySem.boot_len (pa_cons (pv 2) pa_nil)) (pe_callB call_len_seq (by rfl) T.n_len PySem.boot_len (pa_cons (pv 1) pa_nil)) (nomark _)) (pa_cons pe_int (pa_cons (pe_fld (pv 0) rfl) pa_nil))))))))), ?_⟩
    obtain ⟨a, sz, S, rfl, hD, ⟨hP, hcl⟩, ⟨kE, kO⟩⟩ := h
    have hD0 := hD
    have ct := hD.ct
    obtain ⟨dx, c, l1, l2, l3, D⟩ := hD
    have cl := T.Drawing.cl
    have np : 0 < S.pts.length := by have := hP.n4; omega
    have pe := panes_eq hP.g np hcl
    have nb := hP.p.t
    have ol := outl_len S
    obtain ⟨as, q1, q2, q3⟩ := id D.ms
    rw [List.length_map] at q2
    refine ⟨_, rfl, a, sz, S, rfl, hD0, hP, fun po H1 npo e1 hO => ?_⟩
    refine fun d nd => ?_
    have e12 : Ex H1 (upd H1 d (.dK [])) := Ex.new nd
    have hd2 : (upd H1 d (.dK [])) d = some (.dK (kd [])) := upd_same
    generalize upd H1 d (.dK []) = H2 at e12 hd2
    have e2 := e1.trans e12
    refine y_forE (ev_fld (ev_var rfl) (e2 _ _ D.ob) cl T.Drawing.na_marks dF_marks) (ex_l e2 q1)
      (fun i σ' H' => Ex H1 H' ∧ (∃ ks : List Nat, ks.length = i ∧ ks.Nodup ∧ H' d = some (.dK (kd ks)) ∧ pTwice S 0 [] S.marks = pTwice S i (ks.reverse.map some) (S.marks.drop i)) ∧ ∃ v3 v4 v5, σ' = [some (.ref a), some (.ref po), some (.ref d), v3, v4, v5])
      (fun H3 e3 => ⟨e12.trans e3, ⟨[], rfl, List.nodup_nil, e3 _ _ hd2, rfl⟩, none, none, none, rfl⟩) (fun i σ' H' _ q => ex_l (e1.trans q.1) q1) ?_ ?_
    · rintro i x σ' H' hi ⟨e, ⟨ks, k1, k2, k3, k4⟩, v3, v4, v5, rfl⟩ H3 e3
      have e3 := e.trans e3
      have k3 : H3 d = some (.dK (kd ks)) := by
        rename_i e30
        exact e30 _ _ k3
      have lt : i < S.marks.length := by
        have := (List.getElem?_eq_some_iff.mp hi).1
        rw [List.length_map] at this
        omega
      have hpt : S.marks[i]? = some S.marks[i] := List.getElem?_eq_getElem lt
      have dr : S.marks.drop i = S.marks[i] :: S.marks.drop (i + 1) := List.drop_eq_getElem_cons lt
      generalize S.marks[i] = m at hpt dr
      have mm := List.mem_of_getElem? hpt
      obtain ⟨q, hq, hz⟩ := PtL.at_ (l := l3) (by rw [List.length_map]; exact q2) q3 (map_at (f := mkZ) hpt)
      rw [hi] at hq
      have hq := Option.some.inj hq
      subst hq
      obtain ⟨j, hj, pj⟩ := pane_some hP.g np (hcl m mm)
      rw [dr] at k4
      have e03 := e1.trans e3
      refine q_asg (ev_call (z := .int (j : Int)) (ea_cons (ev_var rfl) (ea_cons (ev_var rfl) (ea_cons (ev_var rfl) ea_nil))) (fun H4 e4 Q q5 E => ⟨a, po, _, sz, S, outl S, m.at_, rfl, (hD0.mono e03).mono e4, hP.p, (hO.mono e3).mono e4, by omega, fun r hr => ?_, (hz.mono e03).mono e4, clear_sm hP.p (hcl m mm), ?_⟩)) fun H4 e4 => ?_
      · obtain ⟨x, hx, rfl⟩ := outl_mem hP.g r hr
        exact Outn.rd hP hx
      · have : paneI ((outl S).findIdx? fun r => isIn S r m.at_) = (j : Int) := by
          have : (outl S).findIdx? (fun r => isIn S r m.at_) = some j := pj
          rw [this]
          rfl
        rw [this]
        exact q5
      have k3 := e4 _ _ k3
      have e4 := e3.trans e4
      refine y_ask (ea_cons (ev_dnotin (ev_var rfl) (ev_var rfl) k3) (ea_cons ev_c (ea_cons (ev_meth (ev_var rfl) ((e1.trans e4) _ _ D.ob) dF_no (ea_cons (ev_var rfl) ea_nil) (spv_pl (ct.mono (e1.trans e4)) rfl)) ea_nil))) (fun tb => ?_) (fun tb H5 e5 => ?_)
      · rw [kd_val, Bool.not_eq_false', decide_eq_true_iff] at tb
        have ff : pTwice S 0 [] S.marks = some i := by
          rw [k4]
          unfold pTwice
          rw [pj, if_pos (List.mem_map.mpr ⟨j, List.mem_reverse.mpr tb, rfl⟩)]
        refine (kE ⟨12, markPlace S i⟩ ?_).mono (e1.trans e4)
        unfold fPanes f12
        rw [pe.1, ff]
        rfl
      · rw [kd_val, Bool.not_eq_true', decide_eq_false_iff_not] at tb
        have k3 := e5 _ _ k3
        refine x_dput ev_c (ev_var rfl) (ev_var rfl) k3 (by unfold kd; rw [List.length_map]; exact sz_lt (by omega)) fun H6 e6 => ?_
        rw [kd_put ks j tb]
        refine ⟨Ex.mut ((e4.trans e5).trans e6) nd, ⟨ks ++ [j], by simp [k1], ?_, upd_same, ?_⟩, _, _, _, rfl⟩
        · rw [List.nodup_append]
          refine ⟨k2, by simp, fun x hx y hy => ?_⟩
          rw [List.mem_singleton] at hy
          subst hy
          rintro rfl
          exact tb hx
        · rw [k4]
          show (if pane S m.at_ ∈ _ then _ else _) = _
          rw [pj, if_neg]
          · rw [List.reverse_append]
            rfl
          · intro z
            rw [List.mem_map] at z
            obtain ⟨y, hy, ey⟩ := z
            have := Option.some.inj ey
            subst this
            exact tb (List.mem_reverse.mp hy)
    · rintro σ' H' ⟨e, ⟨ks, k1, k2, k3, k4⟩, v3, v4, v5, rfl⟩
      rw [List.length_map, q2] at k1 k4
      rw [List.drop_length] at k4
      have tn : pTwice S 0 [] S.marks = none := k4
      have p2 := pe.2 tn
      have hO := hO.mono e
      obtain ⟨os, o1, o2, o3⟩ := id hO
      have z12 : f12 S = none := by
        unfold f12
        rw [pe.1, tn]
        rfl
      refine x_ask (b := decide (((kd ks).length : Int) = ((os.map V.ref).length : Int))) (ea_cons (ev_op (ev_lenD (ev_var rfl) k3) (ev_lenL (ev_var rfl) o1) rv_eqI) (ea_cons ev_c (ea_cons (ev_fld (ev_var rfl) ((e1.trans e) _ _ D.ob) cl T.Drawing.na_size dF_size) ea_nil))) (fun tb => ?_) (fun tb H5 e5 => ?_)
      · have tb := of_decide_eq_false tb
        unfold kd at tb
        rw [List.length_map, List.length_map, k1, o2] at tb
        refine (kE ⟨13, sz⟩ ?_).mono (e1.trans e)
        unfold fPanes
        rw [z12]
        show (if _ then _ else _) = _
        rw [if_pos (p2.mpr (by omega))]
      · have tb := of_decide_eq_true tb
        unfold kd at tb
        rw [List.length_map, List.length_map, k1, o2] at tb
        refine kO ?_ H5 ((e1.trans e).trans e5)
        unfold fPanes
        rw [z12]
        show (if _ then _ else _) = _
        rw [if_neg (by rw [p2]; omega)]
/-! ### the cartoon -/
theorem preD_of {b : List UInt8} (h : preF b = none) : PreD (parts b) ∧ b.length = (parts b).size := by
  unfold preF at h
  split at h
  · cases h
  · split at h
    · cases h
    · have hh := head_ok h
      have pl := parts_len b
      unfold headF at h
      repeat' split at h
      all_goals first | cases h | skip
      rename_i h1 h2 h3 h4 h5 h6 h7
      have q1 := (Bool.not_eq_false _).mp h1
      have q2 := (Bool.not_eq_false _).mp h2
      have q3 := (Bool.not_eq_false _).mp h3
      unfold within POINTS at q3
      unfold within SMALLEST LARGEST at q1 q2
      simp only [Bool.and_eq_true, decide_eq_true_eq] at q1 q2 q3
      refine ⟨⟨⟨by omega, by omega, by omega⟩, ⟨q1.2, q2.2⟩, by omega⟩, ?_⟩
      unfold Plan.size markPlace HEAD
      omega
theorem at_assoc (a b c : Option GlaBase.Fault) : andThen (andThen a b) c = andThen a (andThen b c) := by
  cases a <;> rfl
theorem fault_draw (S : Plan) : S.fault = andThen (fDraw S) (andThen (f11 S) (andThen (f12 S) (f13 S))) := by
  rw [fault_chain]
  unfold fDraw fWays
  simp only [at_assoc]
def spCart (K : PySem.W.Frag) (C CN : Addr) : Sp := fun vs H Q E => ∃ (d : Addr) (b : List UInt8), vs = [.ref d] ∧ SqL K H d (bz b) ∧ (∀ f, judgePlan b = .error f → ExcP CN (noF f.rule f.place) H E) ∧
  (∀ S, judgePlan b = .ok S → Pre10 S → ∀ (H' : Hp) (a : Addr), Ex H H' → H a = none → Dw K C H' a b.length S → Q (.ref a) H')
theorem ok_cartoon_of (T : Txt K mg) : FnOk P w K mg base (L2.CX P w) 8 T.cartoon_of.f T.cartoon_of.fd ["data"] (spCart K T.Drawing.C T.x_NoCartoon.C) := by
  refine T.cartoon_of.F.okX sc_cartoon_of (fun vs H Q E h => ?_) (fun cdv A outer s H vs Q E hr h => ?_)
  · obtain ⟨d, b, rfl, _⟩ := h
    rfl
  · refine ⟨_, (pss_cons (ps_set (i := 1) sc_cartoon_of.nd rfl (.inl rfl) (pe_call (ok_drawing_of T) (hr.mono (by decide)) rfl T.drawing_of.g T.drawing_of.F.kp T.drawing_of.b .nil (passes_call (takes_of rfl rfl rfl rfl) (fun _ _ _ _ h => h)) (pa_cons (pv 0) pa_nil)))
    (pss_cons (ps_expr (pe_call (ok_check_drawing T) (hr.mono (by decide)) rfl T.check_drawing.g T.check_drawing.F.kp T.check_drawing.b .nil (passes_call (takes_of rfl rfl rfl rfl) (fun _ _ _ _ h => h)) (pa_cons (pv 1) pa_nil)))
    (pss_cons (ps_expr (pe_call (ok_check_marks T) (hr.mono (by decide)) rfl T.check_marks.g T.check_marks.F.kp T.check_marks.b .nil (passes_call (takes_of rfl rfl rfl rfl) (fun _ _ _ _ h => h)) (pa_cons (pv 1) pa_nil)))
    (pss_cons (ps_expr (pe_call (ok_check_panes T) (hr.mono (by decide)) rfl T.check_panes.g T.check_panes.F.kp T.check_panes.b .nil (passes_call (takes_of rfl rfl rfl rfl) (fun _ _ _ _ h => h)) (pa_cons (pv 1) pa_nil)))
    (pss_one (ps_ret (pv 1))))))), ?_⟩
    obtain ⟨d, b, rfl, hd, kE, kO⟩ := h
    rw [judge_pre] at kE kO
    refine ⟨_, rfl, d, b, rfl, hd, fun f hf => kE f (by rw [hf]), fun hn H1 a e1 na hD => ?_⟩
    obtain ⟨hp, hs⟩ := preD_of hn
    rw [hn, fault_draw] at kE kO
    dsimp only at kE kO
    refine y_chk rfl hD hp (fun f hf => (kE f (by rw [show fDraw (parts b) = some f from hf]; rfl)).mono e1) fun z1 H2 e2 => ?_
    have z1 : fDraw (parts b) = none := z1
    have P10 := pre10_of hp z1
    rw [z1] at kE kO
    have e2' := e1.trans e2
    refine y_chk rfl (hD.mono e2) P10.p (fun f hf => (kE f (by rw [show f11 (parts b) = some f from hf]; rfl)).mono e2') fun z2 H3 e3 => ?_
    have z2 : f11 (parts b) = none := z2
    rw [z2] at kE kO
    have e3' := e2'.trans e3
    have last : fPanes (parts b) b.length = andThen (f12 (parts b)) (f13 (parts b)) := by
      unfold fPanes f13
      rw [hs]
    refine y_chk rfl ((hD.mono e2).mono e3) ⟨P10, f11_clear z2⟩ (fun f hf => (kE f (by rw [last] at hf; show (match andThen (f12 (parts b)) (f13 (parts b)) with | some e => _ | none => _) = _; rw [hf])).mono e3') fun z3 H4 e4 => ?_
    rw [last] at z3
    refine s_ret (ev_var rfl) fun H5 e5 => ?_
    refine kO (parts b) ?_ P10 H5 a ((e3'.trans e4).trans e5) na ((((hD.mono e2).mono e3).mono e4).mono e5)
    show (match andThen (f12 (parts b)) (f13 (parts b)) with | some e => _ | none => _) = _
    rw [z3]
end
end Lead
namespace Lead
open PySem PySem.Spec PyProof.Rows L2 Evl LeadT
open GlaPlan
theorem frame_P (S : Plan) (l : Nat × Nat) : GlaLead.frameLine S l = ((((S.pt l.1).x == (S.pt l.2).x) && (((S.pt l.1).x == 0) || ((S.pt l.1).x == S.w))) || (((S.pt l.1).y == (S.pt l.2).y) && (((S.pt l.1).y == 0) || ((S.pt l.1).y == S.h)))) := by
  unfold GlaLead.frameLine
  dsimp only
  rw [Bool.eq_iff_iff]
  simp only [Bool.or_eq_true, Bool.and_eq_true, beq_iff_eq]
  omega
theorem line_get {S : Plan} {i : Nat} (h : i < S.lines.length) : S.lines[i]? = some (GlaLead.lineOf S i) := by
  unfold GlaLead.lineOf
  rw [List.getD_eq_getElem?_getD, List.getElem?_eq_getElem h]
  rfl
theorem line_mem {S : Plan} {i : Nat} (h : i < S.lines.length) : GlaLead.lineOf S i ∈ S.lines := List.mem_of_getElem? (line_get h)
theorem isLead_eq {S : Plan} {i : Nat} (h : i < S.lines.length) : GlaLead.isLead S i = !GlaLead.frameLine S (GlaLead.lineOf S i) := by
  unfold GlaLead.isLead
  rw [decide_eq_true h]
  rfl
section
variable {P : Program} {w : World} {K : PySem.W.Frag} {mg : Str → Option Value} {base : Heap}
variable {C a dx c l1 l2 l3 : Addr} {H : Hp} {sz : Nat} {S : Plan} {σ : L2.St} {ta tb : TE}
/-- a line of the drawing -/
theorem ev_dln {i : Nat} {iz : Int} (D : DAt K C H a dx c l1 l2 l3 sz S) (cl : Cls K C) (na : NoAttr K C "lines") (ha : Ev ta σ H (.ref a)) (hi : Ev tb σ H (.int iz)) (ez : iz = (i : Int)) (lt : i < S.lines.length) :
    ∃ q, P2 K H q (lnZ (GlaLead.lineOf S i)) ∧ Ev (tOp (rIxL K) (tFld K ta "lines") tb) σ H (.ref q) := ev_pt (ev_fld ha D.ob cl na dF_lines) hi ez D.ls (map_at (f := lnZ) (line_get lt))
theorem bl_nat (u m : Nat) : V.bl (decide (((u : Nat) : Int) = ((m : Nat) : Int))) = V.bl (u == m) := by
  congr 1
  rw [Bool.eq_iff_iff]
  simp
  omega
theorem dec_nat (u m : Nat) : decide (((u : Nat) : Int) = ((m : Nat) : Int)) = (u == m) := by
  rw [Bool.eq_iff_iff]
  simp
  omega
def spEdgeL (K : PySem.W.Frag) (C : Addr) : Sp := fun vs H Q _ => ∃ (a q : Addr) (sz : Nat) (S : Plan) (l : Nat × Nat), vs = [.ref a, .ref q] ∧ Dw K C H a sz S ∧ P2 K H q (lnZ l) ∧ (l.1 < S.pts.length ∧ l.2 < S.pts.length) ∧ RetV (.bl (GlaLead.frameLine S l)) H Q
theorem ok_is_edge_line (T : Txt K mg) : FnOk P w K mg base CX0 1 T.is_edge_line.f T.is_edge_line.fd ["drawing", "line"] (spEdgeL K T.Drawing.C) := by
  refine T.is_edge_line.F.ok sc_is_edge_line (fun vs H Q E h => ?_) (fun cdv A outer s H vs Q E hr h => ?_)
  · obtain ⟨a, q, sz, S, l, rfl, _⟩ := h
    rfl
  · refine ⟨_, (pss_cons (ps_set (i := 2) sc_is_edge_line.nd rfl (.inl rfl) (pe_ix ix_list (pe_fld (pv 0) rfl) (pe_ix ix_tup (pv 1) pe_int (fun _ _ => rfl)) (fun _ _ => rfl)))
    (pss_cons (ps_set (i := 3) sc_is_edge_line.nd rfl (.inl rfl) (pe_ix ix_list (pe_fld (pv 0) rfl) (pe_ix ix_tup (pv 1) pe_int (fun _ _ => rfl)) (fun _ _ => rfl)))
    (pss_cons (ps_if (PW.pt (pw_and (pt_cmpR op_eq (pe_ix ix_tup (pv 2) pe_int (fun _ _ => rfl)) (pe_ix ix_tup (pv 3) pe_int (fun _ _ => rfl)) (nomark _)) (pw_and1 (PW.pt (pw_or (pt_cmpR op_eq (pe_ix ix_tup (pv 2) pe_int (fun _ _ => rfl)) pe_int (nomark _)) (pw_or1 (pt_cmpR op_eq (pe_ix ix_tup (pv 2) pe_int (fun _ _ => rfl)) (pe_fld (pv 0) rfl) (nomark _)))))))) (pss_one (ps_ret pe_bl)) pss_nil)
    (pss_one (ps_ret (pe_and (pe_cmpR op_eq (pe_ix ix_tup (pv 2) pe_int (fun _ _ => rfl)) (pe_ix ix_tup (pv 3) pe_int (fun _ _ => rfl)) (nomark _)) (pe_one (pe_or (pe_cmpR op_eq (pe_ix ix_tup (pv 2) pe_int (fun _ _ => rfl)) pe_int (nomark _)) (pe_one (pe_cmpR op_eq (pe_ix ix_tup (pv 2) pe_int (fun _ _ => rfl)) (pe_fld (pv 0) rfl) (nomark _))))))))))), ?_⟩
    obtain ⟨a, q, sz, S, l, rfl, hD, hq, ⟨g1, g2⟩, k⟩ := h
    obtain ⟨dx, c, l1, l2, l3, D⟩ := hD
    have cl := T.Drawing.cl
    obtain ⟨p1, hp1, ev1⟩ := ev_dpt (σ := [some (.ref a), some (.ref q), none, none]) (ta := tVar 0) (tb := tOp (rIxT K) (tVar 1) (tC (.int 0))) D cl T.Drawing.na_points (ev_var rfl) (ev_p0 (ev_var rfl) hq) rfl g1
    refine q_asg ev1 fun H1 e1 => ?_
    obtain ⟨p2, hp2, ev2⟩ := ev_dpt (σ := [some (.ref a), some (.ref q), some (.ref p1), none]) (ta := tVar 0) (tb := tOp (rIxT K) (tVar 1) (tC (.int 1))) (D.mono e1) cl T.Drawing.na_points (ev_var rfl) (ev_p1 (ev_var rfl) (hq.mono e1)) rfl g2
    refine q_asg ev2 fun H2 e2 => ?_
    have hp1 := (hp1.mono e1).mono e2
    have hp2 := hp2.mono e2
    have e2 := e1.trans e2
    rw [frame_P] at k
    refine q_when (b := ((S.pt l.1).x == (S.pt l.2).x) && (((S.pt l.1).x == 0) || ((S.pt l.1).x == S.w))) (et_is (et_and (et_test (ev_op (ev_p0 (ev_var rfl) hp1) (ev_p0 (ev_var rfl) hp2) rv_eqI)) fun _ => et_or (et_test (ev_op (ev_p0 (ev_var rfl) hp1) ev_c rv_eqI)) fun _ => et_test (ev_op (ev_p0 (ev_var rfl) hp1) (ev_fld (ev_var rfl) (e2 _ _ D.ob) cl T.Drawing.na_width dF_width) rv_eqI)) ?_) (fun tb H3 e3 => ?_) (fun tb H3 e3 => ?_)
    · show (decide (((S.pt l.1).x : Int) = ((S.pt l.2).x : Int)) && (decide (((S.pt l.1).x : Int) = ((0 : Nat) : Int)) || decide (((S.pt l.1).x : Int) = (S.w : Int)))) = _
      rw [dec_nat, dec_nat, dec_nat]
    · rw [tb, Bool.true_or] at k
      exact s_ret ev_c fun H4 e4 => k H4 ((e2.trans e3).trans e4)
    · rw [tb, Bool.false_or] at k
      have hp1 := hp1.mono e3
      have hp2 := hp2.mono e3
      have e3 := e2.trans e3
      refine s_ret (ev_is (ev_andV (ev_op (ev_p1 (ev_var rfl) hp1) (ev_p1 (ev_var rfl) hp2) rv_eqI) fun _ => ev_orV (ev_op (ev_p1 (ev_var rfl) hp1) ev_c rv_eqI) fun _ => ev_op (ev_p1 (ev_var rfl) hp1) (ev_fld (ev_var rfl) (e3 _ _ D.ob) cl T.Drawing.na_height dF_height) rv_eqI) ?_) fun H4 e4 => k H4 (e3.trans e4)
      show V.bl (decide (((S.pt l.1).y : Int) = ((S.pt l.2).y : Int)) && (decide (((S.pt l.1).y : Int) = ((0 : Nat) : Int)) || decide (((S.pt l.1).y : Int) = (S.h : Int)))) = _
      rw [dec_nat, dec_nat, dec_nat]
theorem spv_edgeL {q : Addr} {l : Nat × Nat} (D : Dw K C H a sz S) (hq : P2 K H q (lnZ l)) (g : l.1 < S.pts.length ∧ l.2 < S.pts.length) : SpV (spEdgeL K C) [.ref a, .ref q] H (.bl (GlaLead.frameLine S l)) := fun H1 e Q q' E => ⟨a, q, sz, S, l, rfl, D.mono e, hq.mono e, g, q'⟩
def spOnE (K : PySem.W.Frag) (C : Addr) : Sp := fun vs H Q _ => ∃ (a : Addr) (sz : Nat) (S : Plan) (v : Nat), vs = [.ref a, .int (v : Int)] ∧ Dw K C H a sz S ∧ v < S.pts.length ∧ RetV (.bl (GlaLead.onFrame S (S.pt v))) H Q
theorem ok_Drawing_is_on_edge (T : Txt K mg) : FnOk P w K mg base CX0 1 T.Drawing.is_on_edge.f T.Drawing.is_on_edge.fd ["self", "number"] (spOnE K T.Drawing.C) := by
  refine T.Drawing.is_on_edge.F.ok sc_Drawing_is_on_edge (fun vs H Q E h => ?_) (fun cdv A outer s H vs Q E hr h => ?_)
  · obtain ⟨a, sz, S, v, rfl, _⟩ := h
    rfl
  · refine ⟨_, (pss_cons (ps_asg (pe_ix ix_list (pe_fld (pv 0) rfl) (pv 1) (fun _ _ => rfl)) (pg_tup rfl (pgs_cons (pg_name (i := 2) sc_Drawing_is_on_edge.nd rfl (Or.inl rfl)) (pgs_cons (pg_name (i := 3) sc_Drawing_is_on_edge.nd rfl (Or.inl rfl)) pgs_nil))))
    (pss_one (ps_ret (pe_or (pe_cmpR op_eq (pv 2) pe_int (nomark _)) (pe_or (pe_cmpR op_eq (pv 3) pe_int (nomark _)) (pe_or (pe_cmpR op_eq (pv 2) (pe_fld (pv 0) rfl) (nomark _)) (pe_one (pe_cmpR op_eq (pv 3) (pe_fld (pv 0) rfl) (nomark _))))))))), ?_⟩
    obtain ⟨a, sz, S, v, rfl, hD, g1, k⟩ := h
    obtain ⟨dx, c, l1, l2, l3, D⟩ := hD
    have cl := T.Drawing.cl
    obtain ⟨p1, hp1, ev1⟩ := ev_dpt (σ := [some (.ref a), some (.int (v : Int)), none, none]) (ta := tVar 0) (tb := tVar 1) D cl T.Drawing.na_points (ev_var rfl) (ev_var rfl) rfl g1
    refine ev1 H (Ex.refl H) _ fun H1 e1 => ?_
    refine ⟨p1, _, rfl, hp1.mono e1, rfl, _, _, rfl, _, _, rfl, rfl, ?_⟩
    refine s_ret (ev_is (ev_orV (ev_op (ev_var rfl) ev_c rv_eqI) fun _ => ev_orV (ev_op (ev_var rfl) ev_c rv_eqI) fun _ => ev_orV (ev_op (ev_var rfl) (ev_fld (ev_var rfl) (e1 _ _ D.ob) cl T.Drawing.na_width dF_width) rv_eqI) fun _ => ev_op (ev_var rfl) (ev_fld (ev_var rfl) (e1 _ _ D.ob) cl T.Drawing.na_height dF_height) rv_eqI) ?_) fun H2 e2 => k H2 (e1.trans e2)
    show V.bl (decide (((S.pt v).x : Int) = ((0 : Nat) : Int)) || (decide (((S.pt v).y : Int) = ((0 : Nat) : Int)) || (decide (((S.pt v).x : Int) = (S.w : Int)) || decide (((S.pt v).y : Int) = (S.h : Int))))) = _
    rw [dec_nat, dec_nat, dec_nat, dec_nat]
    unfold GlaLead.onFrame
    congr 1
    generalize ((S.pt v).x == 0) = b1
    generalize ((S.pt v).y == 0) = b2
    generalize ((S.pt v).x == S.w) = b3
    cases b1 <;> cases b2 <;> cases b3 <;> rfl
def spOther (K : PySem.W.Frag) (C : Addr) : Sp := fun vs H Q _ => ∃ (a : Addr) (sz : Nat) (S : Plan) (i v : Nat), vs = [.ref a, .int (i : Int), .int (v : Int)] ∧ Dw K C H a sz S ∧ i < S.lines.length ∧ RetV (.int (GlaLead.other S i v : Int)) H Q
theorem ok_other_end (T : Txt K mg) : FnOk P w K mg base CX0 1 T.other_end.f T.other_end.fd ["drawing", "lead", "point"] (spOther K T.Drawing.C) := by
  refine T.other_end.F.ok sc_other_end (fun vs H Q E h => ?_) (fun cdv A outer s H vs Q E hr h => ?_)
  · obtain ⟨a, sz, S, i, v, rfl, _⟩ := h
    rfl
  · refine ⟨_, (pss_cons (ps_asg (pe_ix ix_list (pe_fld (pv 0) rfl) (pv 1) (fun _ _ => rfl)) (pg_tup rfl (pgs_cons (pg_name (i := 3) sc_other_end.nd rfl (Or.inl rfl)) (pgs_cons (pg_name (i := 4) sc_other_end.nd rfl (Or.inl rfl)) pgs_nil))))
    (pss_cons (ps_if (pt_cmpR op_eq (pv 2) (pv 3) (nomark _)) (pss_one (ps_ret (pv 4))) pss_nil)
    (pss_one (ps_ret (pv 3))))), ?_⟩
    obtain ⟨a, sz, S, i, v, rfl, hD, g1, k⟩ := h
    obtain ⟨dx, c, l1, l2, l3, D⟩ := hD
    have cl := T.Drawing.cl
    obtain ⟨p1, hp1, ev1⟩ := ev_dln (σ := [some (.ref a), some (.int (i : Int)), some (.int (v : Int)), none, none]) (ta := tVar 0) (tb := tVar 1) D cl T.Drawing.na_lines (ev_var rfl) (ev_var rfl) rfl g1
    refine ev1 H (Ex.refl H) _ fun H1 e1 => ?_
    refine ⟨p1, _, rfl, hp1.mono e1, rfl, _, _, rfl, _, _, rfl, rfl, ?_⟩
    unfold GlaLead.other at k
    refine q_when (et_test (ev_op (ev_var rfl) (ev_var rfl) rv_eqI)) (fun tb H2 e2 => ?_) (fun tb H2 e2 => ?_)
    · have tb : (v : Int) = ((GlaLead.lineOf S i).1 : Int) := of_decide_eq_true tb
      rw [if_pos (by omega)] at k
      exact s_ret (ev_var rfl) fun H3 e3 => k H3 ((e1.trans e2).trans e3)
    · have tb : ¬ (v : Int) = ((GlaLead.lineOf S i).1 : Int) := of_decide_eq_false tb
      rw [if_neg (by omega)] at k
      exact s_ret (ev_var rfl) fun H3 e3 => k H3 ((e1.trans e2).trans e3)
theorem spv_other {i v : Nat} (D : Dw K C H a sz S) (h : i < S.lines.length) : SpV (spOther K C) [.ref a, .int (i : Int), .int (v : Int)] H (.int (GlaLead.other S i v : Int)) := fun H1 e Q q' E => ⟨a, sz, S, i, v, rfl, D.mono e, h, q'⟩
/-- a new list of numbers -/
def spLeads (K : PySem.W.Frag) (C : Addr) : Sp := fun vs H Q _ => ∃ (a : Addr) (sz : Nat) (S : Plan), vs = [.ref a] ∧ Dw K C H a sz S ∧ Pre5 S ∧ ∀ l H', H l = none → Ex H H' → H' l = some (.lst (nv (GlaLead.leads S))) → Q (.ref l) H'
theorem leads_given (S : Plan) : given S.lines.length (fun i => !GlaLead.frameLine S (GlaLead.lineOf S i)) (fun i => V.int (i : Int)) = nv (GlaLead.leads S) := by
  unfold given GlaLead.leads nv
  congr 1
  exact List.filter_congr fun i hi => (isLead_eq (List.mem_range.mp hi)).symm
theorem ok_leads_of (T : Txt K mg) : FnOk P w K mg base CX0 2 T.leads_of.f T.leads_of.fd ["drawing"] (spLeads K T.Drawing.C) := by
  refine T.leads_of.F.ok sc_leads_of (fun vs H Q E h => ?_) (fun cdv A outer s H vs Q E hr h => ?_)
  · obtain ⟨a, sz, S, rfl, _⟩ := h
    rfl
  · refine ⟨_, (pss_one (ps_ret (pe_lc (own := [("number", 1), ("line", 2)]) (g := (gTup K 2 (gCons (gName 1) (gCons (gName 2) gNil)))) rfl sc_leads_of.nd (pi_enum (by rfl) T.n_enumerate (pa_cons (pe_fld (pv 0) rfl) pa_nil)) (blkOk_by (N := N_leads_of) (sc := defScope s_leads_of) (by decide +kernel)) (fun _ _ _ _ _ => (pg_tup rfl (pgs_cons (pg_name (i := 1) sc_leads_of.nd rfl (Or.inl rfl)) (pgs_cons (pg_name (i := 2) sc_leads_of.nd rfl (Or.inl rfl)) pgs_nil)))) (fun _ _ _ _ _ => (pts_one (pt_not (pt_val (pe_call (ok_is_edge_line T) (hr.mono (by decide)) rfl T.is_edge_line.g T.is_edge_line.F.kp T.is_edge_line.b .nil pass0 (pa_cons (pv 0) (pa_cons (pv 2) pa_nil))))))) (fun _ _ _ _ _ => (pv 1))))), ?_⟩
    obtain ⟨a, sz, S, rfl, hD, hP, k⟩ := h
    have hD0 := hD
    obtain ⟨dx, c, l1, l2, l3, D⟩ := hD
    have cl := T.Drawing.cl
    obtain ⟨ls, r1, r2, r3⟩ := id D.ls
    rw [List.length_map] at r2
    have nl := hP.t.2.1
    refine ev_fld (ev_var rfl) D.ob cl T.Drawing.na_lines dF_lines H (Ex.refl H) _ fun H1 e1 => ⟨l2, _, rfl, ex_l e1 r1, fun Dl hDl => ?_⟩
    refine lc_it walk_enum (Cw H1 (fun i => !GlaLead.frameLine S (GlaLead.lineOf S i)) (fun i => V.int (i : Int)) Dl) ⟨hDl, Ex.new hDl, upd_same⟩ (fun i H' _ q => ex_l (e1.trans q.2.1) r1) (fun i x H' H2 hi q y => ?_) (fun H' q => ?_)
    · obtain ⟨U, z1, z2, rfl, hU, rfl, ez1, ez2⟩ := y
      have ez1 : z1 = V.int (i : Nat) := (Option.some.inj ez1).symm
      subst ez1
      have lt : i < S.lines.length := by
        rw [List.length_map] at hi
        omega
      obtain ⟨u, hu, huz⟩ := PtL.at_ (l := l2) (by rw [List.length_map]; exact r2) r3 (map_at (f := lnZ) (line_get lt))
      have hu := Option.some.inj ((ez2 : (ls.map V.ref)[i]? = some z2).symm.trans hu)
      subst hu
      have yl := hP.line_lt (line_mem lt)
      have q2 : Cw H1 (fun i => !GlaLead.frameLine S (GlaLead.lineOf S i)) (fun i => V.int (i : Int)) Dl i (upd H' U (.tup [V.int (i : Nat), V.ref u])) := ⟨q.1, q.2.1.trans (Ex.new hU), Ex.new hU _ _ q.2.2⟩
      have hD1 := hD0.mono e1
      refine ⟨U, _, rfl, st_of upd_same, rfl, _, _, rfl, _, _, rfl, rfl, rfl, ?_⟩
      exact cw_turn q2 (by omega) (et_not (et_B (ev_call (ea_cons (ev_var rfl) (ea_cons (ev_var rfl) ea_nil)) (spv_edgeL hD1 (huz.mono e1) (by omega))))) (fun _ => ev_var rfl)
    · have q3 := q.2.2
      rw [List.length_map, r2, leads_given] at q3
      exact k Dl H' (fresh_back e1 q.1) (e1.trans q.2.1) q3
end
end Lead
namespace Lead
open PySem PySem.Spec PyProof.Rows L2 Evl LeadT
open GlaPlan
theorem if_iff {α : Type} {p q : Prop} [Decidable p] [Decidable q] {a b : α} (h : p ↔ q) : (if p then a else b) = if q then a else b := by
  by_cases c : p
  · rw [if_pos c, if_pos (h.mp c)]
  · rw [if_neg c, if_neg (fun z => c (h.mpr z))]
/-! ### the leads that end at a point -/
def endsAt (S : Plan) (pre : List Nat) (v : Nat) : List Nat := pre.filter fun i => (GlaLead.lineOf S i).1 == v || (GlaLead.lineOf S i).2 == v
theorem endsAt_all (S : Plan) (v : Nat) : endsAt S (GlaLead.leads S) v = GlaLead.leadsAt S v := rfl
theorem endsAt_snoc (S : Plan) (pre : List Nat) (i v : Nat) : endsAt S (pre ++ [i]) v = endsAt S pre v ++ (if (GlaLead.lineOf S i).1 = v ∨ (GlaLead.lineOf S i).2 = v then [i] else []) := by
  unfold endsAt
  rw [List.filter_append]
  congr 1
  by_cases c : (GlaLead.lineOf S i).1 = v ∨ (GlaLead.lineOf S i).2 = v
  · rw [if_pos c, List.filter_cons_of_pos (by simpa using c)]
    rfl
  · rw [if_neg c, List.filter_cons_of_neg (by simpa using c)]
    rfl
theorem endsAt_len (S : Plan) (pre : List Nat) (v : Nat) : (endsAt S pre v).length ≤ pre.length := List.length_filter_le _ _
theorem leads_lt {S : Plan} {i : Nat} (h : i ∈ GlaLead.leads S) : i < S.lines.length := List.mem_range.mp (List.mem_filter.mp h).1
theorem leads_len (S : Plan) : (GlaLead.leads S).length ≤ S.lines.length := by
  have := List.length_filter_le (GlaLead.isLead S) (List.range S.lines.length)
  rw [List.length_range] at this
  exact this
/-- between the two ends of a lead -/
def midR (S : Plan) (pre : List Nat) (i j v : Nat) : List Nat := endsAt S pre v ++ (if (1 ≤ j ∧ (GlaLead.lineOf S i).1 = v) ∨ (2 ≤ j ∧ (GlaLead.lineOf S i).2 = v) then [i] else [])
abbrev iz (l : List Nat) : List Int := l.map fun (n : Nat) => (n : Int)
theorem iz_nv (l : List Nat) : (iz l).map V.int = nv l := by
  unfold iz nv
  rw [List.map_map]
  rfl
theorem Rows.ol {K : PySem.W.Frag} {H0 H : Hp} {p : Addr} {es : List Addr} {f : Nat → List Nat} (h : Rows H0 H p es (fun v => iz (f v))) : OL K H p ((List.range es.length).map f) := by
  refine ⟨es, sq_of h.pl, by rw [List.length_map, List.length_range], fun i a row hi hr => ?_⟩
  have lt := (List.getElem?_eq_some_iff.mp hi).1
  rw [List.getElem?_map, List.getElem?_range lt] at hr
  have hr : f i = row := Option.some.inj hr
  rw [← hr, ← iz_nv]
  exact sq_of (h.at_ i a hi).2.1
section
variable {P : Program} {w : World} {K : PySem.W.Frag} {mg : Str → Option Value} {base : Heap}
def spEnd (K : PySem.W.Frag) (C : Addr) : Sp := fun vs H Q _ => ∃ (a l : Addr) (sz : Nat) (S : Plan), vs = [.ref a, .ref l] ∧ Dw K C H a sz S ∧ Pre5 S ∧ SqL K H l (nv (GlaLead.leads S)) ∧
  ∀ p H', H p = none → Ex H H' → OL K H' p ((List.range S.pts.length).map (GlaLead.leadsAt S)) → Q (.ref p) H'
theorem ok_ending_at (T : Txt K mg) : FnOk P w K mg base CX0 1 T.ending_at.f T.ending_at.fd ["drawing", "leads"] (spEnd K T.Drawing.C) := by
  refine T.ending_at.F.ok sc_ending_at (fun vs H Q E h => ?_) (fun cdv A outer s H vs Q E hr h => ?_)
  · obtain ⟨a, l, sz, S, rfl, _⟩ := h
    rfl
  · refine ⟨_, (pss_cons (ps_setLc (i := 2) (own := [("point", 4)]) (g := (gName 4)) rfl sc_ending_at.nd rfl rfl (sw_true rfl rfl rfl (by decide +kernel)) (pi_list (pe_fld (pv 0) rfl)) (blkOk_by (N := N_ending_at) (sc := defScope s_ending_at) (by decide +kernel)) (fun _ _ _ _ _ => (pg_name (i := 4) sc_ending_at.nd rfl (Or.inl rfl))) (fun _ _ _ _ _ => pts_nil) (fun _ _ _ _ _ => (pe_lst pa_nil)))
    (pss_cons (ps_for PassesOwn.never rfl (pi_list (pv 1)) (pg_name (i := 3) sc_ending_at.nd rfl (Or.inl rfl)) (pss_one (ps_for PassesOwn.never rfl (pi_tup (pe_ix ix_list (pe_fld (pv 0) rfl) (pv 3) (fun _ _ => rfl))) (pg_name (i := 4) sc_ending_at.nd rfl (Or.inl rfl)) (pss_one (ps_expr (pe_bm PySem.F.plainAttrs_list PySem.F.slot_list_append PySem.F.type_list_append mt_append (pe_ix ix_list (pv 2) (pv 4) (fun _ _ => rfl)) (pa_cons (pv 3) pa_nil)))))))
    (pss_one (ps_ret (pv 2))))), ?_⟩
    obtain ⟨a, l, sz, S, rfl, hD, hP, hl, k⟩ := h
    obtain ⟨dx, c, l1, l2, l3, D⟩ := hD
    have cl := T.Drawing.cl
    obtain ⟨as, q1, q2, q3⟩ := id D.ps
    rw [List.length_map] at q2
    have nb := hP.t
    have ll := leads_len S
    refine y_empty (ev_fld (ev_var rfl) D.ob cl T.Drawing.na_points dF_points) q1 (by rw [List.length_map, q2]; omega) (fun x => rfl) fun p es H1 hlen R => ?_
    rw [List.length_map, q2] at hlen
    refine q_forL (xs := nv (GlaLead.leads S)) (ev_var rfl) (ex_l R.ex hl)
      (fun m σ' H' => Rows H H' p es (fun v => iz (endsAt S ((GlaLead.leads S).take m) v)) ∧ ∃ v1 v2, σ' = [some (.ref a), some (.ref l), some (.ref p), v1, v2]) (fun H2 e2 => ⟨R.mono e2, _, _, rfl⟩) (fun m σ' H' _ q => ex_l q.1.ex hl) ?_ ?_
    · rintro m x σ' H' hm ⟨R, v1, v2, rfl⟩
      rw [List.getElem?_map] at hm
      obtain ⟨i, hi, rfl⟩ := Option.map_eq_some_iff.mp hm
      have il := leads_lt (List.mem_of_getElem? hi)
      have yl := hP.line_lt (line_mem il)
      have tl : ((GlaLead.leads S).take m).length ≤ 8192 := by rw [List.length_take]; omega
      have tk := take_snoc hi
      obtain ⟨u, hu, evu⟩ := ev_dln (σ := [some (.ref a), some (.ref l), some (.ref p), some (.int (i : Int)), v2]) (ta := tVar 0) (tb := tVar 3) D cl T.Drawing.na_lines (ev_var rfl) (ev_var rfl) rfl il
      generalize hpre : (GlaLead.leads S).take m = pre at R tl tk
      refine s_forT (xs := vz (lnZ (GlaLead.lineOf S i))) (evu.mono R.ex) (ex_t R.ex hu) (fun j σ' H' => Rows H H' p es (fun v => iz (midR S pre i j v)) ∧ ∃ v2, σ' = [some (.ref a), some (.ref l), some (.ref p), some (.int (i : Int)), v2]) (fun H2 e2 => ⟨?_, _, rfl⟩) (fun j σ' H'' hj q => ex_t q.1.ex hu) ?_ ?_
      · have : (fun v => iz (midR S pre i 0 v)) = fun v => iz (endsAt S pre v) := by
          funext v
          unfold midR
          rw [if_neg (by omega), List.append_nil]
        rw [this]
        exact R.mono e2
      · rintro j x σ' H2 hj ⟨R, v2, rfl⟩
        have step : ∀ (v : Nat), v < S.pts.length → (((GlaLead.lineOf S i).1 = v ∧ j = 0) ∨ ((GlaLead.lineOf S i).2 = v ∧ j = 1)) → x = V.int (v : Int) → tDrop (tBM K "list" rAppend (tOp (rIxL K) (tVar 2) (tVar 4)) (tCons (tVar 3) tNil)) { nx := fun σ' H' => Rows H H' p es (fun v => iz (midR S pre i (j + 1) v)) ∧ ∃ v2, σ' = [some (.ref a), some (.ref l), some (.ref p), some (.int (i : Int)), v2], ct := fun σ' H' => Rows H H' p es (fun v => iz (midR S pre i (j + 1) v)) ∧ ∃ v2, σ' = [some (.ref a), some (.ref l), some (.ref p), some (.int (i : Int)), v2], bk := fun σ' H' => Rows H H' p es (fun v => iz (endsAt S ((GlaLead.leads S).take (m + 1)) v)) ∧ ∃ v1 v2, σ' = [some (.ref a), some (.ref l), some (.ref p), v1, v2], rt := Q }
            [some (.ref a), some (.ref l), some (.ref p), some (.int (i : Int)), some (.int (v : Int))] H2 := by
          intro v hv hc hx
          have h1 : es[v]? = some (es[v]'(by omega)) := List.getElem?_eq_getElem _
          generalize es[v]'(by omega) = ea at h1
          have old : midR S pre i j v = endsAt S pre v := by
            unfold midR
            rw [if_neg (by omega), List.append_nil]
          have new : midR S pre i (j + 1) v = endsAt S pre v ++ [i] := by
            unfold midR
            rw [if_pos (by omega)]
          refine s_app (xs := (iz (midR S pre i j v)).map V.int) (R.at_ _ _ h1).2.1 (ev_op (ev_var rfl) (ev_var rfl) (rv_ixL (sq_of R.pl) (at_of rfl (by rw [List.getElem?_map, h1]; rfl)))) (ev_var rfl) (by rw [List.length_map, List.length_map, old]; have := endsAt_len S pre v; omega) fun H3 e3 => ⟨?_, _, rfl⟩
          have R3 := (R.mono e3).put (r' := fun v => iz (midR S pre i (j + 1) v)) h1 (fun v' hv' => by
            show iz _ = iz _
            congr 1
            unfold midR
            congr 1
            refine if_iff ?_
            omega)
          have er : (iz (midR S pre i j v)).map V.int ++ [V.int (i : Int)] = (iz (midR S pre i (j + 1) v)).map V.int := by
            rw [old, new]
            simp
          rw [er]
          exact R3
        have sg : ∀ v : Nat, x = V.int (v : Int) → gName 4 x [some (.ref a), some (.ref l), some (.ref p), some (.int (i : Int)), v2] H2 = fun Q => Q [some (.ref a), some (.ref l), some (.ref p), some (.int (i : Int)), some (.int (v : Int))] H2 := by
          rintro v rfl
          rfl
        match j, hj with
        | 0, hj =>
          have hx : x = V.int ((GlaLead.lineOf S i).1 : Int) := (Option.some.inj hj).symm
          rw [sg _ hx]
          exact step _ (by omega) (.inl ⟨rfl, rfl⟩) hx
        | 1, hj =>
          have hx : x = V.int ((GlaLead.lineOf S i).2 : Int) := (Option.some.inj hj).symm
          rw [sg _ hx]
          exact step _ (by omega) (.inr ⟨rfl, rfl⟩) hx
        | j + 2, hj => simp [vz] at hj
      · rintro σ' H2 ⟨R, v2, rfl⟩
        refine ⟨?_, _, _, rfl⟩
        have : (fun v => iz (endsAt S ((GlaLead.leads S).take (m + 1)) v)) = fun v => iz (midR S pre i 2 v) := by
          funext v
          rw [tk, endsAt_snoc]
          unfold midR
          congr 2
          refine if_iff ?_
          omega
        rw [this]
        exact R
    · rintro σ' H' ⟨R, v1, v2, rfl⟩
      have : (GlaLead.leads S).take (nv (GlaLead.leads S)).length = GlaLead.leads S := by
        rw [List.length_map, List.take_length]
      rw [this] at R
      refine s_ret (ev_var rfl) fun H2 e2 => ?_
      have R := R.mono e2
      have := Rows.ol (K := K) R
      rw [hlen] at this
      exact k p H2 R.pn R.ex this
end
end Lead
namespace Lead
open PySem PySem.Spec PyProof.Rows L2 Evl LeadT
open GlaPlan
/-! ### pairs of leads -/
theorem mul_bd {a b : Int} (ha : a.natAbs ≤ 1048576) (hb : b.natAbs ≤ 1048576) : (a * b).natAbs ≤ 1099511627776 := by
  rw [Int.natAbs_mul]
  exact Nat.mul_le_mul ha hb
theorem dx_bd {S : Plan} (O : Pre5 S) {u v : Nat} (hu : u < S.pts.length) (hv : v < S.pts.length) : (dx (S.pt u) (S.pt v)).natAbs ≤ 1048576 ∧ (dy (S.pt u) (S.pt v)).natAbs ≤ 1048576 := by
  have b1 := O.box hu
  have b2 := O.box hv
  have := O.w
  have := O.h
  unfold dx dy
  omega
theorem other_lt {S : Plan} (O : Pre5 S) {i v : Nat} (h : i < S.lines.length) : GlaLead.other S i v < S.pts.length := by
  have := O.line_lt (line_mem h)
  unfold GlaLead.other
  split <;> omega
theorem bend_bd {S : Plan} (O : Pre5 S) {v i j : Nat} (hv : v < S.pts.length) (hi : i < S.lines.length) (hj : j < S.lines.length) : (GlaLead.bendOf S v i j).1 ≤ 2199023255552 ∧ (GlaLead.bendOf S v i j).2.natAbs ≤ 2199023255552 := by
  have h1 := other_lt (v := v) O hi
  have h2 := other_lt (v := v) O hj
  have d1 := dx_bd O h1 hv
  have d2 := dx_bd O hv h2
  have m1 := mul_bd d1.1 d2.1
  have m2 := mul_bd d1.2 d2.2
  have m3 := mul_bd d1.1 d2.2
  have m4 := mul_bd d1.2 d2.1
  unfold GlaLead.bendOf turn goesOn
  dsimp only
  omega
def pF (i j bd : Nat) (on : Int) : List (Str × V) := [("one", .int (i : Int)), ("other", .int (j : Int)), ("bend", .int (bd : Int)), ("on", .int on)]
/-- a pair of leads at a point, as an object -/
def PrA (C : Addr) (S : Plan) (v : Nat) (H : Hp) (a : Addr) (x : Nat × Nat) : Prop := ∃ dx, H a = some (.ins C dx (pF x.1 x.2 (GlaLead.bendOf S v x.1 x.2).1 (GlaLead.bendOf S v x.1 x.2).2))
theorem PrA.mono {C : Addr} {S : Plan} {v : Nat} {H H' : Hp} {a : Addr} {x : Nat × Nat} (h : PrA C S v H a x) (e : Ex H H') : PrA C S v H' a x := let ⟨dx, q⟩ := h; ⟨dx, e _ _ q⟩
/-- within the drawing -/
structure PrL (S : Plan) (v : Nat) (x : Nat × Nat) : Prop where
  v : v < S.pts.length
  i : x.1 < S.lines.length
  j : x.2 < S.lines.length
def mt (x y : Nat × Nat) : Bool := y.1 == x.1 || (y.1 == x.2 || (y.2 == x.1 || y.2 == x.2))
def thru (a b : Nat) (S : Plan) (v : Nat) (x : Nat × Nat) : Bool := decide (0 < (GlaLead.bendOf S v x.1 x.2).2) && decide ((GlaLead.bendOf S v x.1 x.2).1 * b ≤ (GlaLead.bendOf S v x.1 x.2).2.toNat * a)
def aheadP (p q : Nat × Int) (x y : Nat × Nat) : Bool := if (p.1 : Int) * q.2 ≠ (q.1 : Int) * p.2 then decide ((p.1 : Int) * q.2 < (q.1 : Int) * p.2) else HT.lexLt [(x.1 : Int), (x.2 : Int)] [(y.1 : Int), (y.2 : Int)]
theorem lexLt_ln (p q : Nat × Nat) : HT.lexLt [(p.1 : Int), (p.2 : Int)] [(q.1 : Int), (q.2 : Int)] = lineBelow p q := by
  rw [Bool.eq_iff_iff, lineBelow_iff]
  simp only [HT.lexLt, Bool.or_eq_true, Bool.and_eq_true, decide_eq_true_eq, beq_iff_eq]
  repeat' split
  all_goals simp
  all_goals omega
theorem ahead_eq {S : Plan} {v : Nat} {x y : Nat × Nat} (hx : 0 < (GlaLead.bendOf S v x.1 x.2).2) (hy : 0 < (GlaLead.bendOf S v y.1 y.2).2) : aheadP (GlaLead.bendOf S v x.1 x.2) (GlaLead.bendOf S v y.1 y.2) x y = GlaLead.pairBefore S v x y := by
  unfold aheadP GlaLead.pairBefore
  generalize GlaLead.bendOf S v x.1 x.2 = p at hx
  generalize GlaLead.bendOf S v y.1 y.2 = q at hy
  obtain ⟨p1, p2⟩ := p
  obtain ⟨q1, q2⟩ := q
  dsimp only at hx hy ⊢
  obtain ⟨m, rfl⟩ : ∃ m : Nat, p2 = (m : Int) := ⟨p2.toNat, by omega⟩
  obtain ⟨n, rfl⟩ : ∃ n : Nat, q2 = (n : Int) := ⟨q2.toNat, by omega⟩
  rw [Int.toNat_natCast, Int.toNat_natCast, ← Int.natCast_mul, ← Int.natCast_mul, lexLt_ln]
  by_cases c : p1 * n = q1 * m
  · rw [c, if_neg (fun z => z rfl), decide_eq_false (Nat.lt_irrefl _)]
    simp
  · rw [if_pos (by omega)]
    have : (p1 * n == q1 * m) = false := by simpa using c
    rw [this, Bool.false_and, Bool.or_false]
    rw [Bool.eq_iff_iff, decide_eq_true_iff, decide_eq_true_iff]
    omega
/-- a list of pairs -/
def PZ (C : Addr) (S : Plan) (v : Nat) (H : Hp) (l : Addr) (z : List (Addr × (Nat × Nat))) : Prop := H l = some (.lst (z.map fun x => V.ref x.1)) ∧ ∀ x ∈ z, PrA C S v H x.1 x.2
theorem PZ.mono {C : Addr} {S : Plan} {v : Nat} {H H' : Hp} {l : Addr} {z : List (Addr × (Nat × Nat))} (h : PZ C S v H l z) (e : Ex H H') : PZ C S v H' l z := ⟨e _ _ h.1, fun x hx => (h.2 x hx).mono e⟩
def bestOf (S : Plan) (v : Nat) (b : Addr × (Nat × Nat)) (z : List (Addr × (Nat × Nat))) : Addr × (Nat × Nat) := z.foldl (fun b p => if GlaLead.pairBefore S v p.2 b.2 = true then p else b) b
theorem best_mem (S : Plan) (v : Nat) : ∀ (z : List (Addr × (Nat × Nat))) (b : Addr × (Nat × Nat)), bestOf S v b z ∈ b :: z
  | [], b => by simp [bestOf]
  | p :: z, b => by
    have h : bestOf S v b (p :: z) = bestOf S v (if GlaLead.pairBefore S v p.2 b.2 = true then p else b) z := rfl
    rw [h]
    split
    · have := best_mem S v z p
      rcases List.mem_cons.mp this with q | q
      · rw [q]
        simp
      · simp [q]
    · have := best_mem S v z b
      rcases List.mem_cons.mp this with q | q
      · rw [q]
        simp
      · simp [q]
/-- the pairs of a list, a lead with each one behind it -/
def rowP (f : Nat × Nat → Bool) (L : List Nat) (k : Nat) : List (Nat × Nat) := ((L.drop (k + 1)).map fun j => (L.getD k 0, j)).filter f
def rawP (f : Nat × Nat → Bool) (L : List Nat) (n : Nat) : List (Nat × Nat) := (List.range n).flatMap (rowP f L)
theorem rawP_succ (f : Nat × Nat → Bool) (L : List Nat) (n : Nat) : rawP f L (n + 1) = rawP f L n ++ rowP f L n := by
  unfold rawP
  rw [List.range_succ, List.flatMap_append]
  simp
theorem rowP_len (f : Nat × Nat → Bool) (L : List Nat) (k : Nat) : (rowP f L k).length ≤ L.length := by
  unfold rowP
  refine Nat.le_trans (List.length_filter_le _ _) ?_
  rw [List.length_map, List.length_drop]
  omega
section
variable {P : Program} {w : World} {K : PySem.W.Frag} {mg : Str → Option Value} {base : Heap}
variable {H : Hp} {σ : L2.St} {ta tb : TE}
def spPInit (C : Addr) : Sp := fun vs H Q _ => ∃ (x dx : Addr) (i j bd : Nat) (on : Int), vs = [.ref x, .int (i : Int), .int (j : Int), .int (bd : Int), .int on] ∧ H x = some (.ins C dx []) ∧ ∀ H', ExB x H H' → H' x = some (.ins C dx (pF i j bd on)) → Q .non H'
theorem ok_Pair_init (T : Txt K mg) : FnOk P w K mg base CX0 1 T.Pair.init.f T.Pair.init.fd ["self", "one", "other", "bend", "on"] (spPInit T.Pair.C) := by
  refine T.Pair.init.F.ok sc_Pair_init (fun vs H Q E h => ?_) (fun cdv A outer s H vs Q E hr h => ?_)
  · obtain ⟨x, dx, i, j, bd, on, rfl, _⟩ := h
    rfl
  · refine ⟨_, (pss_cons (ps_fld (pv 0) (pv 1) rfl)
    (pss_cons (ps_fld (pv 0) (pv 2) rfl)
    (pss_cons (ps_fld (pv 0) (pv 3) rfl)
    (pss_one (ps_fld (pv 0) (pv 4) rfl))))), ?_⟩
    obtain ⟨x, dx, i, j, bd, on, rfl, hx, k⟩ := h
    have cl := T.Pair.cl
    refine q_fld (ev_var rfl) (ev_var rfl) hx cl T.Pair.na_one (by show 0 < 1000; decide) fun H1 e1 => ?_
    have b1 := (ExB.of (x := x) e1).put (o := .ins T.Pair.C dx (putF "one" (.int (i : Int)) []))
    refine q_fld (ev_var rfl) (ev_var rfl) upd_same cl T.Pair.na_other (by show 1 < 1000; decide) fun H2 e2 => ?_
    have b2 := (b1.ex e2).put (o := .ins T.Pair.C dx (putF "other" (.int (j : Int)) (putF "one" (.int (i : Int)) [])))
    refine q_fld (ev_var rfl) (ev_var rfl) upd_same cl T.Pair.na_bend (by rw [putNew (f := "other") _ ["one"] rfl (by decide +kernel)]; show 2 < 1000; decide) fun H3 e3 => ?_
    have f3 : putF "bend" (.int (bd : Int)) (putF "other" (.int (j : Int)) (putF "one" (.int (i : Int)) [])) = [(("one" : Str), V.int (i : Int)), ("other", .int (j : Int)), ("bend", .int (bd : Int))] := by
      rw [putNew (f := "other") _ ["one"] rfl (by decide +kernel)]
      exact putNew (f := "bend") _ ["one", "other"] rfl (by decide +kernel)
    rw [f3]
    have b3 := (b2.ex e3).put (o := .ins T.Pair.C dx [(("one" : Str), V.int (i : Int)), ("other", .int (j : Int)), ("bend", .int (bd : Int))])
    refine s_fld (ev_var rfl) (ev_var rfl) upd_same cl T.Pair.na_on (by show 3 < 1000; decide) fun H4 e4 => ?_
    have f4 : putF "on" (.int on) [(("one" : Str), V.int (i : Int)), ("other", .int (j : Int)), ("bend", .int (bd : Int))] = pF i j bd on := putNew (f := "on") _ ["one", "other", "bend"] rfl (by decide +kernel)
    rw [f4]
    exact k _ ((b3.ex e4).put) upd_same
theorem ev_abs {i : Int} (ha : Ev ta σ H (.int i)) : Ev (tCB (fun xs H Q => ∃ i, xs = [.int i] ∧ Q (.int (if i < 0 then -i else i)) H) (tCons ta tNil)) σ H (.int (i.natAbs : Int)) := fun H1 e Q q =>
  ha H1 e _ fun H2 e2 => ⟨i, rfl, by
    have : (if i < 0 then -i else i) = (i.natAbs : Int) := by
      split <;> omega
    rw [this]
    exact q H2 e2⟩
theorem s_retMk {D : Ends} {C : Addr} {sp : Sp} {E : XK} {t : TA} {vs : List V} (h : EvA t σ H vs) (k : ∀ x dx H1, Ex H H1 → H1 x = none → H1 dx = none → dx ≠ x → sp (.ref x :: vs) (upd (upd H1 dx (.own x)) x (.ins C dx [])) (fun v H2 => v = .non ∧ D.rt (.ref x) H2) E) : tRet (tMake C sp [] E t) D σ H := h H (Ex.refl H) _ fun H1 e x dx a b c => by
  rw [List.append_nil]
  exact k x dx H1 e a b c
def spPairAt (K : PySem.W.Frag) (C CP : Addr) : Sp := fun vs H Q _ => ∃ (a : Addr) (sz : Nat) (S : Plan) (v i j : Nat), vs = [.ref a, .int (v : Int), .int (i : Int), .int (j : Int)] ∧ Dw K C H a sz S ∧ Pre5 S ∧ PrL S v (i, j) ∧ ∀ x H', H x = none → Ex H H' → PrA CP S v H' x (i, j) → Q (.ref x) H'
theorem ok_pair_at (T : Txt K mg) : FnOk P w K mg base CX0 3 T.pair_at.f T.pair_at.fd ["drawing", "v", "one", "other"] (spPairAt K T.Drawing.C T.Pair.C) := by
  refine T.pair_at.F.ok sc_pair_at (fun vs H Q E h => ?_) (fun cdv A outer s H vs Q E hr h => ?_)
  · obtain ⟨a, sz, S, v, i, j, rfl, _⟩ := h
    rfl
  · refine ⟨_, (pss_cons (ps_set (i := 4) sc_pair_at.nd rfl (.inl rfl) (pe_ix ix_list (pe_fld (pv 0) rfl) (pe_call (ok_other_end T) (hr.mono (by decide)) rfl T.other_end.g T.other_end.F.kp T.other_end.b .nil pass0 (pa_cons (pv 0) (pa_cons (pv 2) (pa_cons (pv 1) pa_nil)))) (fun _ _ => rfl)))
    (pss_cons (ps_set (i := 5) sc_pair_at.nd rfl (.inl rfl) (pe_ix ix_list (pe_fld (pv 0) rfl) (pe_call (ok_other_end T) (hr.mono (by decide)) rfl T.other_end.g T.other_end.F.kp T.other_end.b .nil pass0 (pa_cons (pv 0) (pa_cons (pv 3) (pa_cons (pv 1) pa_nil)))) (fun _ _ => rfl)))
    (pss_cons (ps_set (i := 6) sc_pair_at.nd rfl (.inl rfl) (pe_ix ix_list (pe_fld (pv 0) rfl) (pv 1) (fun _ _ => rfl)))
    (pss_one (ps_ret (pe_make T.Pair.M (ok_Pair_init T) (hr.mono (by decide)) rfl T.Pair.g T.Pair.init.b .nil pass0 (pa_cons (pv 2) (pa_cons (pv 3) (pa_cons (pe_callB call_abs (by rfl) T.n_abs (by decide +kernel) (pa_cons (pe_call (ok_turn T) (hr.mono (by decide)) rfl T.turn.g T.turn.F.kp T.turn.b .nil pass0 (pa_cons (pv 4) (pa_cons (pv 6) (pa_cons (pv 5) pa_nil)))) pa_nil)) (pa_cons (pe_call (ok_onward T) (hr.mono (by decide)) rfl T.onward.g T.onward.F.kp T.onward.b .nil pass0 (pa_cons (pv 4) (pa_cons (pv 6) (pa_cons (pv 5) pa_nil)))) pa_nil)))))))))), ?_⟩
    obtain ⟨a, sz, S, v, i, j, rfl, hD, hP, ⟨hv, hi, hj⟩, k⟩ := h
    have hD0 := hD
    obtain ⟨dx, c, l1, l2, l3, D⟩ := hD
    have cl := T.Drawing.cl
    have o1 := other_lt (v := v) hP hi
    have o2 := other_lt (v := v) hP hj
    have cc : ∀ {ta : TE} {m : Nat} {σ : L2.St} {H' : Hp} (i : Nat), i < S.lines.length → Ex H H' → σ[0]? = some (some (.ref a)) → σ[m]? = some (some (.int (i : Int))) → σ[1]? = some (some (.int (v : Int))) → Ev (tCall (spOther K T.Drawing.C) [] E0 (tCons (tVar 0) (tCons (tVar m) (tCons (tVar 1) tNil)))) σ H' (.int (GlaLead.other S i v : Int)) :=
      fun i hi e h0 hm h1 => ev_call (ea_cons (ev_var h0) (ea_cons (ev_var hm) (ea_cons (ev_var h1) ea_nil))) (spv_other (hD0.mono e) hi)
    obtain ⟨p1, hp1, ev1⟩ := ev_dpt (σ := [some (.ref a), some (.int (v : Int)), some (.int (i : Int)), some (.int (j : Int)), none, none, none]) (ta := tVar 0) D cl T.Drawing.na_points (ev_var rfl) (cc (ta := tVar 0) (m := 2) i hi (Ex.refl H) rfl rfl rfl) rfl o1
    refine q_asg ev1 fun H1 e1 => ?_
    obtain ⟨p2, hp2, ev2⟩ := ev_dpt (σ := [some (.ref a), some (.int (v : Int)), some (.int (i : Int)), some (.int (j : Int)), some (.ref p1), none, none]) (ta := tVar 0) (D.mono e1) cl T.Drawing.na_points (ev_var rfl) (cc (ta := tVar 0) (m := 3) j hj e1 rfl rfl rfl) rfl o2
    refine q_asg ev2 fun H2 e2 => ?_
    have e12 := e1.trans e2
    obtain ⟨p3, hp3, ev3⟩ := ev_dpt (σ := [some (.ref a), some (.int (v : Int)), some (.int (i : Int)), some (.int (j : Int)), some (.ref p1), some (.ref p2), none]) (ta := tVar 0) (tb := tVar 1) (D.mono e12) cl T.Drawing.na_points (ev_var rfl) (ev_var rfl) rfl hv
    refine q_asg ev3 fun H3 e3 => ?_
    have hp1 := ((hp1.mono e1).mono e2).mono e3
    have hp2 := (hp2.mono e2).mono e3
    have hp3 := hp3.mono e3
    have e13 := e12.trans e3
    refine s_retMk (ea_cons (ev_var rfl) (ea_cons (ev_var rfl) (ea_cons (ev_abs (ev_call (ea_cons (ev_var rfl) (ea_cons (ev_var rfl) (ea_cons (ev_var rfl) ea_nil))) (spv_turn hp1 hp3 hp2 ⟨hP.sm o1, hP.sm hv, hP.sm o2⟩)))
      (ea_cons (ev_call (ea_cons (ev_var rfl) (ea_cons (ev_var rfl) (ea_cons (ev_var rfl) ea_nil))) (spv_onward hp1 hp3 hp2 ⟨hP.sm o1, hP.sm hv, hP.sm o2⟩)) ea_nil)))) fun x dx H4 e4 nx nd ne => ⟨x, dx, i, j, _, _, rfl, upd_same, fun H5 b5 x5 => ⟨rfl, ?_⟩⟩
    have e5 : Ex H4 H5 := fun y o q => b5 y o (ne_of_none q nx) (by rw [upd_ne (ne_of_none q nx), upd_ne (ne_of_none q nd)]; exact q)
    exact k x H5 (fresh_back (e13.trans e4) nx) ((e13.trans e4).trans e5) ⟨dx, x5⟩
variable {CP : Addr} {S : Plan} {v : Nat}
theorem ev_pf {a : Addr} {x : Nat × Nat} (cl : Cls K CP) (h : PrA CP S v H a x) (ha : Ev ta σ H (.ref a)) : (NoAttr K CP "one" → Ev (tFld K ta "one") σ H (.int (x.1 : Int))) ∧ (NoAttr K CP "other" → Ev (tFld K ta "other") σ H (.int (x.2 : Int))) ∧
    (NoAttr K CP "bend" → Ev (tFld K ta "bend") σ H (.int ((GlaLead.bendOf S v x.1 x.2).1 : Int))) ∧ (NoAttr K CP "on" → Ev (tFld K ta "on") σ H (.int (GlaLead.bendOf S v x.1 x.2).2)) := by
  obtain ⟨dx, q⟩ := h
  exact ⟨fun n => ev_fld ha q cl n rfl, fun n => ev_fld ha q cl n (by rfl), fun n => ev_fld ha q cl n (by rfl), fun n => ev_fld ha q cl n (by rfl)⟩
def spThru (CP : Addr) : Sp := fun vs H Q _ => ∃ (p : Addr) (S : Plan) (v a b : Nat) (x : Nat × Nat), vs = [.ref p, .int (a : Int), .int (b : Int)] ∧ PrA CP S v H p x ∧ Pre5 S ∧ PrL S v x ∧ RetV (.bl (thru a b S v x)) H Q
theorem ok_goes_through (T : Txt K mg) : FnOk P w K mg base CX0 1 T.goes_through.f T.goes_through.fd ["pair", "a", "b"] (spThru T.Pair.C) := by
  refine T.goes_through.F.ok sc_goes_through (fun vs H Q E h => ?_) (fun cdv A outer s H vs Q E hr h => ?_)
  · obtain ⟨p, S, v, a, b, x, rfl, _⟩ := h
    rfl
  · refine ⟨_, (pss_one (ps_ret (pe_and (pe_cmpR op_gt (pe_fld (pv 0) rfl) pe_int (nomark _)) (pe_one (pe_cmpR op_le (pe_op op_mul (pe_fld (pv 0) rfl) (pv 2)) (pe_op op_mul (pe_fld (pv 0) rfl) (pv 1)) (nomark _)))))), ?_⟩
    obtain ⟨p, S, v, a, b, x, rfl, hp, hP, ⟨hv, hi, hj⟩, k⟩ := h
    have cl := T.Pair.cl
    have bd := bend_bd hP hv hi hj
    have f := ev_pf (σ := [some (.ref p), some (.int (a : Int)), some (.int (b : Int))]) (ta := tVar 0) cl hp (ev_var rfl)
    refine s_ret (ev_is (ev_andV (ev_op (f.2.2.2 T.Pair.na_on) ev_c rv_I0) fun _ => ev_op (ev_op (f.2.2.1 T.Pair.na_bend) (ev_var rfl) (rv_I (.inl ⟨by omega, by omega⟩))) (ev_op (f.2.2.2 T.Pair.na_on) (ev_var rfl) (rv_I (.inl ⟨by omega, by omega⟩))) rv_I0) ?_) fun H1 e1 => k H1 e1
    unfold thru
    congr 1
    generalize (GlaLead.bendOf S v x.1 x.2).2 = on
    generalize (GlaLead.bendOf S v x.1 x.2).1 = bd'
    by_cases c : 0 < on
    · obtain ⟨m, rfl⟩ : ∃ m : Nat, on = (m : Int) := ⟨on.toNat, by omega⟩
      congr 1
      rw [Int.toNat_natCast, ← Int.natCast_mul, ← Int.natCast_mul, Bool.eq_iff_iff, decide_eq_true_iff, decide_eq_true_iff]
      omega
    · rw [decide_eq_false c]
      rfl
theorem spv_thru {p : Addr} {a b : Nat} {x : Nat × Nat} (h : PrA CP S v H p x) (O : Pre5 S) (L : PrL S v x) : SpV (spThru CP) [.ref p, .int (a : Int), .int (b : Int)] H (.bl (thru a b S v x)) := fun H1 e Q q E => ⟨p, S, v, a, b, x, rfl, h.mono e, O, L, q⟩
def spAhead (K : PySem.W.Frag) (CP : Addr) : Sp := fun vs H Q _ => ∃ (p q : Addr) (S : Plan) (v : Nat) (x y : Nat × Nat), vs = [.ref p, .ref q] ∧ PrA CP S v H p x ∧ PrA CP S v H q y ∧ Pre5 S ∧ PrL S v x ∧ PrL S v y ∧ RetV (.bl (aheadP (GlaLead.bendOf S v x.1 x.2) (GlaLead.bendOf S v y.1 y.2) x y)) H Q
theorem ok_is_ahead (T : Txt K mg) : FnOk P w K mg base CX0 1 T.is_ahead.f T.is_ahead.fd ["pair", "than"] (spAhead K T.Pair.C) := by
  refine T.is_ahead.F.ok sc_is_ahead (fun vs H Q E h => ?_) (fun cdv A outer s H vs Q E hr h => ?_)
  · obtain ⟨p, q, S, v, x, y, rfl, _⟩ := h
    rfl
  · refine ⟨_, (pss_cons (ps_set (i := 2) sc_is_ahead.nd rfl (.inl rfl) (pe_op op_mul (pe_fld (pv 0) rfl) (pe_fld (pv 1) rfl)))
    (pss_cons (ps_set (i := 3) sc_is_ahead.nd rfl (.inl rfl) (pe_op op_mul (pe_fld (pv 1) rfl) (pe_fld (pv 0) rfl)))
    (pss_cons (ps_if (pt_cmpR op_ne (pv 2) (pv 3) (nomark _)) (pss_one (ps_ret (pe_cmpR op_lt (pv 2) (pv 3) (nomark _)))) pss_nil)
    (pss_one (ps_ret (pe_cmpR (op_ltT (hu0 hr)) (pe_tup (pa_cons (pe_fld (pv 0) rfl) (pa_cons (pe_fld (pv 0) rfl) pa_nil))) (pe_tup (pa_cons (pe_fld (pv 1) rfl) (pa_cons (pe_fld (pv 1) rfl) pa_nil))) (nomark _))))))), ?_⟩
    obtain ⟨p, q, S, v, x, y, rfl, hp, hq, hP, ⟨hv, hi, hj⟩, ⟨_, hi', hj'⟩, k⟩ := h
    have cl := T.Pair.cl
    have b1 := bend_bd hP hv hi hj
    have b2 := bend_bd hP hv hi' hj'
    unfold aheadP at k
    have f1 := ev_pf (σ := [some (.ref p), some (.ref q), none, none]) (ta := tVar 0) cl hp (ev_var rfl)
    have f2 := ev_pf (σ := [some (.ref p), some (.ref q), none, none]) (ta := tVar 1) cl hq (ev_var rfl)
    refine q_asg (ev_op (f1.2.2.1 T.Pair.na_bend) (f2.2.2.2 T.Pair.na_on) (rv_I (.inl ⟨by omega, by omega⟩))) fun H1 e1 => ?_
    have f1 := ev_pf (σ := [some (.ref p), some (.ref q), some (.int (((GlaLead.bendOf S v x.1 x.2).1 : Int) * (GlaLead.bendOf S v y.1 y.2).2)), none]) (ta := tVar 0) cl (hp.mono e1) (ev_var rfl)
    have f2 := ev_pf (σ := [some (.ref p), some (.ref q), some (.int (((GlaLead.bendOf S v x.1 x.2).1 : Int) * (GlaLead.bendOf S v y.1 y.2).2)), none]) (ta := tVar 1) cl (hq.mono e1) (ev_var rfl)
    refine q_asg (ev_op (f2.2.2.1 T.Pair.na_bend) (f1.2.2.2 T.Pair.na_on) (rv_I (.inl ⟨by omega, by omega⟩))) fun H2 e2 => ?_
    have e2 := e1.trans e2
    refine q_when (et_test (ev_op (ev_var rfl) (ev_var rfl) rv_neI)) (fun tb H3 e3 => ?_) (fun tb H3 e3 => ?_)
    · rw [if_pos (by simpa using tb)] at k
      exact s_ret (ev_op (ev_var rfl) (ev_var rfl) rv_I0) fun H4 e4 => k H4 ((e2.trans e3).trans e4)
    · rw [if_neg (by simpa using tb)] at k
      have e3 := e2.trans e3
      have f1 := ev_pf (σ := [some (.ref p), some (.ref q), some (.int (((GlaLead.bendOf S v x.1 x.2).1 : Int) * (GlaLead.bendOf S v y.1 y.2).2)), some (.int (((GlaLead.bendOf S v y.1 y.2).1 : Int) * (GlaLead.bendOf S v x.1 x.2).2))]) (ta := tVar 0) cl (hp.mono e3) (ev_var rfl)
      have f2 := ev_pf (σ := [some (.ref p), some (.ref q), some (.int (((GlaLead.bendOf S v x.1 x.2).1 : Int) * (GlaLead.bendOf S v y.1 y.2).2)), some (.int (((GlaLead.bendOf S v y.1 y.2).1 : Int) * (GlaLead.bendOf S v x.1 x.2).2))]) (ta := tVar 1) cl (hq.mono e3) (ev_var rfl)
      refine s_ret (ev_opUU (xs := vz (lnZ x)) (ys := vz (lnZ y)) (eu_tup (ea_cons (f1.1 T.Pair.na_one) (ea_cons (f1.2.1 T.Pair.na_other) ea_nil)) (by show 2 ≤ 100000; decide)) (eu_tup (ea_cons (f2.1 T.Pair.na_one) (ea_cons (f2.2.1 T.Pair.na_other) ea_nil)) (by show 2 ≤ 100000; decide)) fun a b H4 ha hb e4 H5 e5 Q5 q5 => ⟨a, b, [(x.1 : Int), (x.2 : Int)], [(y.1 : Int), (y.2 : Int)], rfl, rfl, ex_t e5 (st_of ha), ex_t e5 (st_of hb), q5 H5 (Ex.refl H5)⟩) fun H4 e4 => k H4 (e3.trans e4)
theorem spv_ahead {p q : Addr} {x y : Nat × Nat} (h : PrA CP S v H p x) (h' : PrA CP S v H q y) (O : Pre5 S) (L : PrL S v x) (L' : PrL S v y) : SpV (spAhead K CP) [.ref p, .ref q] H (.bl (aheadP (GlaLead.bendOf S v x.1 x.2) (GlaLead.bendOf S v y.1 y.2) x y)) := fun H1 e Q k E => ⟨p, q, S, v, x, y, rfl, h.mono e, h'.mono e, O, L, L', k⟩
def spMeets (K : PySem.W.Frag) (CP : Addr) : Sp := fun vs H Q _ => ∃ (p q : Addr) (S : Plan) (v : Nat) (x y : Nat × Nat), vs = [.ref p, .ref q] ∧ PrA CP S v H p x ∧ PrA CP S v H q y ∧ RetV (.bl (mt x y)) H Q
theorem ok_meets (T : Txt K mg) : FnOk P w K mg base CX0 1 T.meets.f T.meets.fd ["pair", "taken"] (spMeets K T.Pair.C) := by
  refine T.meets.F.ok sc_meets (fun vs H Q E h => ?_) (fun cdv A outer s H vs Q E hr h => ?_)
  · obtain ⟨p, q, S, v, x, y, rfl, _⟩ := h
    rfl
  · refine ⟨_, (pss_one (ps_ret (pe_or (pe_cmpR op_in_seq (pe_fld (pv 0) rfl) (pe_tup (pa_cons (pe_fld (pv 1) rfl) (pa_cons (pe_fld (pv 1) rfl) pa_nil))) rfl) (pe_one (pe_cmpR op_in_seq (pe_fld (pv 0) rfl) (pe_tup (pa_cons (pe_fld (pv 1) rfl) (pa_cons (pe_fld (pv 1) rfl) pa_nil))) rfl))))), ?_⟩
    obtain ⟨p, q, S, v, x, y, rfl, hp, hq, k⟩ := h
    have cl := T.Pair.cl
    have f1 := ev_pf (σ := [some (.ref p), some (.ref q)]) (ta := tVar 0) cl hp (ev_var rfl)
    have f2 := ev_pf (σ := [some (.ref p), some (.ref q)]) (ta := tVar 1) cl hq (ev_var rfl)
    have tp := eu_tup (ea_cons (f2.1 T.Pair.na_one) (ea_cons (f2.2.1 T.Pair.na_other) ea_nil)) (by show 2 ≤ 100000; decide)
    refine s_ret (ev_is (ev_orV (ev_inU (f1.1 T.Pair.na_one) tp rfl rfl) fun _ => ev_inU (f1.2.1 T.Pair.na_other) tp rfl rfl) ?_) fun H1 e1 => k H1 e1
    congr 1
    unfold mt inV
    simp only [List.any_cons, List.any_nil, eqV, Bool.or_false]
    rw [Bool.eq_iff_iff]
    simp only [Bool.or_eq_true, beq_iff_eq]
    omega
theorem spv_meets {p q : Addr} {x y : Nat × Nat} (h : PrA CP S v H p x) (h' : PrA CP S v H q y) : SpV (spMeets K CP) [.ref p, .ref q] H (.bl (mt x y)) := fun H1 e Q k E => ⟨p, q, S, v, x, y, rfl, h.mono e, h'.mono e, k⟩
end
end Lead
namespace Lead
open PySem PySem.Spec PyProof.Rows L2 Evl LeadT
open GlaPlan
theorem rawP_len (f : Nat × Nat → Bool) (L : List Nat) (n : Nat) : (rawP f L n).length ≤ n * L.length := by
  induction n with
  | zero => simp [rawP]
  | succ n ih =>
    rw [rawP_succ, List.length_append, Nat.succ_mul]
    have := rowP_len f L n
    omega
/-- a part of a row -/
def partP (f : Nat × Nat → Bool) (L : List Nat) (k m : Nat) : List (Nat × Nat) := (((L.drop (k + 1)).take m).map fun j => (L.getD k 0, j)).filter f
theorem partP_all (f : Nat × Nat → Bool) (L : List Nat) (k m : Nat) (h : L.length ≤ m + k + 1) : partP f L k m = rowP f L k := by
  unfold partP rowP
  rw [List.take_of_length_le (by rw [List.length_drop]; omega)]
theorem partP_len (f : Nat × Nat → Bool) (L : List Nat) (k m : Nat) : (partP f L k m).length ≤ L.length := by
  unfold partP
  refine Nat.le_trans (List.length_filter_le _ _) ?_
  rw [List.length_map, List.length_take, List.length_drop]
  omega
theorem partP_succ (f : Nat × Nat → Bool) (L : List Nat) (k m : Nat) {x : Nat} (h : L[k + 1 + m]? = some x) : partP f L k (m + 1) = partP f L k m ++ (if f (L.getD k 0, x) = true then [(L.getD k 0, x)] else []) := by
  unfold partP
  have : (L.drop (k + 1))[m]? = some x := by rw [List.getElem?_drop]; exact h
  rw [take_snoc this, List.map_append, List.filter_append]
  congr 1
  show List.filter f [(L.getD k 0, x)] = _
  rw [List.filter_cons]
  rfl
/-- the greedy way of joining, as the program has it -/
def posL (S : Plan) (v : Nat) (x : Nat × Nat) : Prop := PrL S v x ∧ 0 < (GlaLead.bendOf S v x.1 x.2).2
section
variable {P : Program} {w : World} {K : PySem.W.Frag} {mg : Str → Option Value} {base : Heap}
variable {H : Hp} {σ : L2.St} {ta tb : TE} {CP : Addr} {S : Plan} {v : Nat}
theorem q_callN {D : Ends} {tz : TS} {sp : Sp} {vs : List V} {t : TA} {i : Nat} {E : XK} (h : EvA t σ H vs) (k : ∀ H1, Ex H H1 → sp vs H1 (fun v H2 => tz D (σ.set i (some v)) H2) E) : tSeq (tAsg (tCall sp [] E t) (gName i)) tz D σ H := h H (Ex.refl H) _ fun H1 e => by
  rw [List.append_nil]
  exact k H1 e
theorem s_callN {D : Ends} {sp : Sp} {vs : List V} {t : TA} {i : Nat} {E : XK} (h : EvA t σ H vs) (k : ∀ H1, Ex H H1 → sp vs H1 (fun v H2 => D.nx (σ.set i (some v)) H2) E) : tAsg (tCall sp [] E t) (gName i) D σ H := h H (Ex.refl H) _ fun H1 e => by
  rw [List.append_nil]
  exact k H1 e
theorem cut_drop (xs : List V) (h : 1 ≤ xs.length) : cutV xs (some 1) none = xs.drop 1 := by
  unfold cutV
  have s1 : HT.sIx xs.length 0 (some 1) = 1 := by
    unfold HT.sIx
    simp
    omega
  have s2 : HT.sIx xs.length xs.length none = xs.length := by
    unfold HT.sIx
    simp
  rw [s1, s2, List.take_of_length_le (by rw [List.length_drop]; omega)]
def spFirst (K : PySem.W.Frag) (CP : Addr) : Sp := fun vs H Q _ => ∃ (l : Addr) (S : Plan) (v : Nat) (b : Addr × (Nat × Nat)) (z : List (Addr × (Nat × Nat))), vs = [.ref l] ∧ PZ CP S v H l (b :: z) ∧ (∀ x ∈ b :: z, posL S v x.2) ∧ Pre5 S ∧ RetV (.ref (bestOf S v b z).1) H Q
theorem ok_first_pair (T : Txt K mg) : FnOk P w K mg base CX0 2 T.first_pair.f T.first_pair.fd ["pairs"] (spFirst K T.Pair.C) := by
  refine T.first_pair.F.ok sc_first_pair (fun vs H Q E h => ?_) (fun cdv A outer s H vs Q E hr h => ?_)
  · obtain ⟨l, S, v, b, z, rfl, _⟩ := h
    rfl
  · refine ⟨_, (pss_cons (ps_set (i := 1) sc_first_pair.nd rfl (.inl rfl) (pe_ix ix_list (pv 0) pe_int (fun _ _ => rfl)))
    (pss_cons (ps_for PassesOwn.never rfl (pi_list (pe_slice sl_list (pv 0) (po_some pe_int) po_none)) (pg_name (i := 2) sc_first_pair.nd rfl (Or.inl rfl)) (pss_one (ps_if (pt_val (pe_call (ok_is_ahead T) (hr.mono (by decide)) rfl T.is_ahead.g T.is_ahead.F.kp T.is_ahead.b .nil pass0 (pa_cons (pv 2) (pa_cons (pv 1) pa_nil)))) (pss_one (ps_set (i := 1) sc_first_pair.nd rfl (.inl rfl) (pv 2))) pss_nil)))
    (pss_one (ps_ret (pv 1))))), ?_⟩
    obtain ⟨l, S, v, b, z, rfl, hz, hg, hP, k⟩ := h
    refine q_asg (ev_op (ev_var rfl) ev_c (rv_ixL (v := .ref b.1) (sq_of hz.1) (at_of (j := 0) rfl rfl))) fun H1 e1 => ?_
    have hz1 := hz.mono e1
    refine q_forNL (xs := z.map fun x => V.ref x.1) (fun H2 e2 Q2 q2 => el_sl (ev_var rfl) (eo_some ev_c) eo_none (sq_of hz1.1) H2 e2 Q2 fun p H3 hp e3 h3 => q2 p H3 hp e3 (by
        rw [cut_drop _ (by simp)] at h3
        exact h3))
      (fun p i σ' H' => Ex H1 H' ∧ H' p = some (.lst (z.map fun x => V.ref x.1)) ∧ bestOf S v b (z.take i) ∈ b :: z ∧ ∃ v2, σ' = [some (.ref l), some (.ref (bestOf S v b (z.take i)).1), v2]) (fun p H2 hp e2 h2 => ⟨e2, h2, by simp [bestOf], _, rfl⟩) (fun p i σ' H' _ q => sq_of q.2.1) ?_ ?_
    · rintro p i x σ' H' hi ⟨e, hp, hm, v2, rfl⟩
      rw [List.getElem?_map] at hi
      obtain ⟨y, hy, rfl⟩ := Option.map_eq_some_iff.mp hi
      have ym : y ∈ b :: z := by simp [List.mem_of_getElem? hy]
      have fo : bestOf S v b (z.take (i + 1)) = if GlaLead.pairBefore S v y.2 (bestOf S v b (z.take i)).2 = true then y else bestOf S v b (z.take i) := by
        unfold bestOf
        rw [take_snoc hy, List.foldl_append]
        rfl
      generalize bestOf S v b (z.take i) = bs at hm fo
      rw [fo]
      have hz2 := hz1.mono e
      have g1 := hg y ym
      have g2 := hg bs hm
      refine s_when (et_B (ev_call (ea_cons (ev_var rfl) (ea_cons (ev_var rfl) ea_nil)) (spv_ahead (hz2.2 y ym) (hz2.2 bs hm) hP g1.1 g2.1))) (fun tb H2 e2 => ?_) (fun tb H2 e2 => ?_)
      · rw [ahead_eq g1.2 g2.2] at tb
        refine s_asg (ev_var rfl) fun H3 e3 => ?_
        rw [if_pos tb]
        exact ⟨(e.trans e2).trans e3, e3 _ _ (e2 _ _ hp), ym, _, rfl⟩
      · rw [ahead_eq g1.2 g2.2] at tb
        rw [if_neg (by rw [tb]; decide)]
        exact ⟨e.trans e2, e2 _ _ hp, hm, _, rfl⟩
    · rintro p σ' H' ⟨e, hp, hm, v2, rfl⟩
      rw [List.length_map, List.take_length]
      exact s_ret (ev_var rfl) fun H2 e2 => k H2 ((e1.trans e).trans e2)
theorem spv_first {l : Addr} {b : Addr × (Nat × Nat)} {z : List (Addr × (Nat × Nat))} (h : PZ CP S v H l (b :: z)) (g : ∀ x ∈ b :: z, posL S v x.2) (O : Pre5 S) : SpV (spFirst K CP) [.ref l] H (.ref (bestOf S v b z).1) := fun H1 e Q q E => ⟨l, S, v, b, z, rfl, h.mono e, g, O, q⟩
def spPairs (K : PySem.W.Frag) (C CP : Addr) : Sp := fun vs H Q _ => ∃ (d l : Addr) (sz : Nat) (S : Plan) (v a b : Nat) (L : List Nat), vs = [.ref d, .int (v : Int), .ref l, .int (a : Int), .int (b : Int)] ∧ Dw K C H d sz S ∧ Pre5 S ∧ v < S.pts.length ∧ SqL K H l (nv L) ∧ L.length ≤ 200 ∧ (∀ i ∈ L, i < S.lines.length) ∧
  ∀ p z H', H p = none → Ex H H' → PZ CP S v H' p z → z.map (fun x => x.2) = rawP (thru a b S v) L L.length → Q (.ref p) H'
theorem ok_pairs_at (T : Txt K mg) : FnOk P w K mg base CX0 4 T.pairs_at.f T.pairs_at.fd ["drawing", "v", "leads", "a", "b"] (spPairs K T.Drawing.C T.Pair.C) := by
  refine T.pairs_at.F.ok sc_pairs_at (fun vs H Q E h => ?_) (fun cdv A outer s H vs Q E hr h => ?_)
  · obtain ⟨d, l, sz, S, v, a, b, L, rfl, _⟩ := h
    rfl
  · refine ⟨_, (pss_cons (ps_set (i := 5) sc_pairs_at.nd rfl (.inl rfl) (pe_lst pa_nil))
    (pss_cons (ps_for PassesOwn.never rfl (pi_range1 rfl T.n_range (pa_cons (pe_callB call_len_seq (by rfl) T.n_len PySem.boot_len (pa_cons (pv 2) pa_nil)) pa_nil)) (pg_name (i := 6) sc_pairs_at.nd rfl (Or.inl rfl)) (pss_one (ps_for PassesOwn.never rfl (pi_range2 rfl T.n_range (pa_cons (pe_op op_add (pv 6) pe_int) (pa_cons (pe_callB call_len_seq (by rfl) T.n_len PySem.boot_len (pa_cons (pv 2) pa_nil)) pa_nil))) (pg_name (i := 7) sc_pairs_at.nd rfl (Or.inl rfl)) (pss_cons (ps_set (i := 8) sc_pairs_at.nd rfl (.inl rfl) (pe_call (ok_pair_at T) (hr.mono (by decide)) rfl T.pair_at.g T.pair_at.F.kp T.pair_at.b .nil pass0 (pa_cons (pv 0) (pa_cons (pv 1) (pa_cons (pe_ix ix_list (pv 2) (pv 6) (fun _ _ => rfl)) (pa_cons (pe_ix ix_list (pv 2) (pv 7) (fun _ _ => rfl)) pa_nil))))))
    (pss_one (ps_if (pt_val (pe_call (ok_goes_through T) (hr.mono (by decide)) rfl T.goes_through.g T.goes_through.F.kp T.goes_through.b .nil pass0 (pa_cons (pv 8) (pa_cons (pv 3) (pa_cons (pv 4) pa_nil))))) (pss_one (ps_expr (pe_bm PySem.F.plainAttrs_list PySem.F.slot_list_append PySem.F.type_list_append mt_append (pv 5) (pa_cons (pv 8) pa_nil)))) pss_nil))))))
    (pss_one (ps_ret (pv 5))))), ?_⟩
    obtain ⟨d, l, sz, S, v, a, b, L, rfl, hD, hP, hv, hl, hn, hb, k⟩ := h
    have ln : (nv L).length = L.length := List.length_map _
    refine q_asgL (xs := []) (el_lst ea_nil (by show 0 ≤ 100000; decide)) fun p H1 np e1 h1 => ?_
    have bd : ∀ n, n ≤ L.length → (rawP (thru a b S v) L n).length ≤ 40000 := fun n hn' => by
      refine Nat.le_trans (rawP_len _ _ _) ?_
      exact Nat.mul_le_mul (by omega : n ≤ 200) hn
    refine q_forR1 (n := ((nv L).length : Int)) (ea_cons (ev_lenL (ev_var rfl) (ex_l e1 hl)) ea_nil) (by rw [ln]; omega)
      (fun n σ' H' => Ex H H' ∧ (∃ z, PZ T.Pair.C S v H' p z ∧ z.map (fun x => x.2) = rawP (thru a b S v) L n) ∧ ∃ v6 v7 v8, σ' = [some (.ref d), some (.int (v : Int)), some (.ref l), some (.int (a : Int)), some (.int (b : Int)), some (.ref p), v6, v7, v8])
      (fun H2 e2 => ⟨e1.trans e2, ⟨[], ⟨e2 _ _ h1, by simp⟩, rfl⟩, _, _, _, rfl⟩) ?_ ?_
    · rintro n σ' H' hnl ⟨e, ⟨z, hz, hzm⟩, v6, v7, v8, rfl⟩
      rw [ln] at hnl
      have hnl : n < L.length := by omega
      have hxn : L[n]? = some (L.getD n 0) := by rw [List.getD_eq_getElem?_getD, List.getElem?_eq_getElem hnl]; rfl
      have iL := hb _ (List.mem_of_getElem? hxn)
      have b0 := bd n (by omega)
      refine s_forR2 (lo := (n : Int) + 1) (n := ((nv L).length : Int)) (ea_cons (ev_op (ev_var rfl) ev_c rv_I0) (ea_cons (ev_lenL (ev_var rfl) (ex_l e hl)) ea_nil)) (by rw [ln]; omega)
        (fun m σ' H' => Ex H H' ∧ (∃ z, PZ T.Pair.C S v H' p z ∧ z.map (fun x => x.2) = rawP (thru a b S v) L n ++ partP (thru a b S v) L n m) ∧ ∃ v7 v8, σ' = [some (.ref d), some (.int (v : Int)), some (.ref l), some (.int (a : Int)), some (.int (b : Int)), some (.ref p), some (.int (n : Int)), v7, v8])
        (fun H2 e2 => ⟨e.trans e2, ⟨z, hz.mono e2, by rw [hzm]; unfold partP; simp⟩, _, _, rfl⟩) ?_ ?_
      · rintro m σ' H2 hml ⟨e, ⟨z, hz, hzm⟩, v7, v8, rfl⟩
        rw [ln] at hml
        have hml : n + 1 + m < L.length := by omega
        have hxm : L[n + 1 + m]? = some (L[n + 1 + m]'hml) := List.getElem?_eq_getElem _
        generalize L[n + 1 + m]'hml = j at hxm
        have jL := hb _ (List.mem_of_getElem? hxm)
        have atn : ∀ (i x : Nat), L[i]? = some x → (nv L)[i]? = some (V.int (x : Int)) := fun i x hx => by rw [List.getElem?_map, hx]; rfl
        have prl : PrL S v (L.getD n 0, j) := ⟨hv, iL, jL⟩
        refine q_callN (ea_cons (ev_var rfl) (ea_cons (ev_var rfl) (ea_cons (ev_op (ev_var rfl) (ev_var rfl) (rv_ixL (ex_l e hl) (at_of rfl (atn n _ hxn)))) (ea_cons (ev_op (ev_var rfl) (ev_var rfl) (rv_ixL (ex_l e hl) (at_of (j := n + 1 + m) (by omega) (atn _ j hxm)))) ea_nil)))) fun H3 e3 => ⟨d, sz, S, v, L.getD n 0, j, rfl, hD.mono (e.trans e3), hP, prl, fun x H4 nx e4 hx => ?_⟩
        have e34 := e3.trans e4
        have hz4 := hz.mono e34
        have b1 := partP_len (thru a b S v) L n m
        have zl : z.length ≤ 40200 := by
          have := congrArg List.length hzm
          rw [List.length_map, List.length_append] at this
          omega
        have ps := partP_succ (thru a b S v) L n m hxm
        refine s_when (et_B (ev_call (ea_cons (ev_var rfl) (ea_cons (ev_var rfl) (ea_cons (ev_var rfl) ea_nil))) (spv_thru hx hP prl))) (fun tb H5 e5 => ?_) (fun tb H5 e5 => ?_)
        · have hz5 := hz4.mono e5
          have hx5 := hx.mono e5
          refine s_app hz5.1 (ev_var rfl) (ev_var rfl) (by rw [List.length_map]; omega) fun H6 e6 => ?_
          have hz6 := hz5.mono e6
          have hx6 := hx5.mono e6
          have keep : ∀ {c : Addr} {y : Nat × Nat}, PrA T.Pair.C S v H6 c y → PrA T.Pair.C S v (upd H6 p (.lst ((z.map fun x => V.ref x.1) ++ [V.ref x]))) c y := by
            rintro c y ⟨dx, hc⟩
            exact ⟨dx, by rw [upd_ne (ne_of hc hz6.1 (by intro z; cases z))]; exact hc⟩
          refine ⟨Ex.mut (((e.trans e34).trans e5).trans e6) np, ⟨z ++ [(x, (L.getD n 0, j))], ⟨by rw [upd_same, List.map_append]; rfl, fun y hy => ?_⟩, ?_⟩, _, _, rfl⟩
          · rcases List.mem_append.mp hy with q | q
            · exact keep (hz6.2 y q)
            · rw [List.mem_singleton.mp q]
              exact keep hx6
          · rw [List.map_append, hzm, ps, if_pos tb, List.append_assoc]
            rfl
        · refine ⟨(e.trans e34).trans e5, ⟨z, hz4.mono e5, ?_⟩, _, _, rfl⟩
          rw [hzm, ps, if_neg (by rw [tb]; decide), List.append_nil]
      · rintro σ' H2 ⟨e, ⟨z, hz, hzm⟩, v7, v8, rfl⟩
        refine ⟨e, ⟨z, hz, ?_⟩, _, _, _, rfl⟩
        rw [hzm, rawP_succ, partP_all _ _ _ _ (by rw [ln]; omega)]
    · rintro σ' H' ⟨e, ⟨z, hz, hzm⟩, v6, v7, v8, rfl⟩
      rw [ln, Int.toNat_natCast] at hzm
      exact s_ret (ev_var rfl) fun H2 e2 => k p z H2 np (e.trans e2) (hz.mono e2) hzm
end
end Lead
namespace Lead
open PySem PySem.Spec PyProof.Rows L2 Evl LeadT
open GlaPlan
/-! ### joining, as the program does it -/
def bestP (S : Plan) (v : Nat) (b : Nat × Nat) (l : List (Nat × Nat)) : Nat × Nat := l.foldl (fun b p => if GlaLead.pairBefore S v p b = true then p else b) b
def greedy (S : Plan) (v : Nat) : Nat → List (Nat × Nat) → List (Nat × Nat)
  | 0, _ => []
  | _ + 1, [] => []
  | n + 1, b :: r => bestP S v b r :: greedy S v n ((b :: r).filter fun p => !mt p (bestP S v b r))
theorem best_P (S : Plan) (v : Nat) : ∀ (z : List (Addr × (Nat × Nat))) (b : Addr × (Nat × Nat)), (bestOf S v b z).2 = bestP S v b.2 (z.map fun x => x.2)
  | [], b => rfl
  | p :: z, b => by
    have h : bestOf S v b (p :: z) = bestOf S v (if GlaLead.pairBefore S v p.2 b.2 = true then p else b) z := rfl
    have h2 : bestP S v b.2 ((p :: z).map fun x => x.2) = bestP S v (if GlaLead.pairBefore S v p.2 b.2 = true then p.2 else b.2) (z.map fun x => x.2) := rfl
    rw [h, h2, best_P S v z]
    split <;> rfl
theorem mt_self (x : Nat × Nat) : mt x x = true := by
  unfold mt
  simp
theorem bestP_mem (S : Plan) (v : Nat) : ∀ (l : List (Nat × Nat)) (b : Nat × Nat), bestP S v b l ∈ b :: l
  | [], b => by simp [bestP]
  | p :: l, b => by
    have h : bestP S v b (p :: l) = bestP S v (if GlaLead.pairBefore S v p b = true then p else b) l := rfl
    rw [h]
    split
    · have := bestP_mem S v l p
      rcases List.mem_cons.mp this with q | q
      · rw [q]
        simp
      · simp [q]
    · have := bestP_mem S v l b
      rcases List.mem_cons.mp this with q | q
      · rw [q]
        simp
      · simp [q]
theorem filter_less {α : Type} {p : α → Bool} : ∀ {l : List α} {x : α}, x ∈ l → p x = false → (l.filter p).length < l.length
  | y :: l, x, h, hp => by
    rcases List.mem_cons.mp h with rfl | h
    · rw [List.filter_cons_of_neg (by rw [hp]; decide)]
      have := List.length_filter_le p l
      simp only [List.length_cons]
      omega
    · have := filter_less h hp
      rw [List.filter_cons]
      split <;> simp only [List.length_cons] <;> omega
def jput (v : Nat) (kvs : List (List Key × V)) (x : Nat × Nat) : List (List Key × V) := putK (putK kvs (kP (v, x.1)) (.int (x.2 : Int))) (kP (v, x.2)) (.int (x.1 : Int))
theorem put_len {κ : Type} [DecidableEq κ] (kvs : List (κ × V)) (k : κ) (y : V) : (putK kvs k y).length ≤ kvs.length + 1 := by
  unfold putK
  split
  · rw [List.length_map]
    omega
  · rw [List.length_append]
    exact Nat.le_refl _
/-- the filter of a list, as a comprehension gives it -/
theorem given_filter {α : Type} (l : List α) (g : α → Bool) (h : α → V) (d : α) : given l.length (fun i => g (l.getD i d)) (fun i => h (l.getD i d)) = (l.filter g).map h := by
  have e : l = (List.range l.length).map fun i => l.getD i d := by
    refine List.ext_getElem? fun i => ?_
    rw [List.getElem?_map]
    by_cases c : i < l.length
    · rw [List.getElem?_range c, List.getElem?_eq_getElem c, Option.map_some, List.getD_eq_getElem?_getD, List.getElem?_eq_getElem c]
      rfl
    · rw [List.getElem?_eq_none (by omega), List.getElem?_eq_none (by rw [List.length_range]; omega)]
      rfl
  unfold given
  rw [show (l.filter g).map h = (((List.range l.length).map fun i => l.getD i d).filter g).map h by rw [← e], List.filter_map, List.map_map]
  rfl
section
variable {P : Program} {w : World} {K : PySem.W.Frag} {mg : Str → Option Value} {base : Heap}
def spJoin (CP : Addr) : Sp := fun vs H Q _ => ∃ (d l : Addr) (S : Plan) (v : Nat) (z : List (Addr × (Nat × Nat))) (kvs : List (List Key × V)), vs = [.ref d, .int (v : Int), .ref l] ∧ H d = some (.dT kvs) ∧ PZ CP S v H l z ∧ (∀ x ∈ z, posL S v x.2) ∧ Pre5 S ∧ z.length ≤ 40000 ∧
  kvs.length + 2 * (greedy S v z.length (z.map fun x => x.2)).length ≤ 90000 ∧ ∀ H', ExB d H H' → H' d = some (.dT ((greedy S v z.length (z.map fun x => x.2)).foldl (jput v) kvs)) → Q .non H'
theorem ok_join_at (T : Txt K mg) : FnOk P w K mg base CX0 3 T.join_at.f T.join_at.fd ["joins", "v", "pairs"] (spJoin T.Pair.C) := by
  refine T.join_at.F.ok sc_join_at (fun vs H Q E h => ?_) (fun cdv A outer s H vs Q E hr h => ?_)
  · obtain ⟨d, l, S, v, z, kvs, rfl, _⟩ := h
    rfl
  · refine ⟨_, (pss_one (ps_while PassesOwn.never (pt_cmpR op_gt (pe_callB call_len_seq (by rfl) T.n_len PySem.boot_len (pa_cons (pv 2) pa_nil)) pe_int (nomark _)) (pss_cons (ps_set (i := 3) sc_join_at.nd rfl (.inr rfl) (pe_call (ok_first_pair T) (hr.mono (by decide)) rfl T.first_pair.g T.first_pair.F.kp T.first_pair.b .nil pass0 (pa_cons (pv 2) pa_nil)))
    (pss_cons (ps_dput (hu_of hr) (pv 0) (pe_tup (pa_cons (pv 1) (pa_cons (pe_fld (pv 3) rfl) pa_nil))) (pe_fld (pv 3) rfl) rfl)
    (pss_cons (ps_dput (hu_of hr) (pv 0) (pe_tup (pa_cons (pv 1) (pa_cons (pe_fld (pv 3) rfl) pa_nil))) (pe_fld (pv 3) rfl) rfl)
    (pss_one (ps_setLc (i := 2) (own := [("pair", 4)]) (g := (gName 4)) rfl sc_join_at.nd rfl rfl (sw_true rfl rfl rfl (by decide +kernel)) (pi_list (pv 2)) (blkOk_by (N := N_join_at) (sc := defScope s_join_at) (by decide +kernel)) (fun _ _ _ _ _ => (pg_name (i := 4) sc_join_at.nd rfl (Or.inl rfl))) (fun _ _ _ _ _ => (pts_one (pt_not (pt_val (pe_call (ok_meets T) (hr.mono (by decide)) rfl T.meets.g T.meets.F.kp T.meets.b .nil pass0 (pa_cons (pv 4) (pa_cons (pv 3) pa_nil))))))) (fun _ _ _ _ _ => (pv 4))))))))), ?_⟩
    obtain ⟨d, l, S, v, z, kvs, rfl, hd, hz, hg, hP, hn, hb, k⟩ := h
    have cl := T.Pair.cl
    generalize hK : (greedy S v z.length (z.map fun x => x.2)).foldl (jput v) kvs = Kf at k
    refine s_while (fun f σ' H' => ∃ l z kvs', ExB d H H' ∧ H' d = some (.dT kvs') ∧ PZ T.Pair.C S v H' l z ∧ (∀ x ∈ z, posL S v x.2) ∧ z.length ≤ f ∧ f ≤ 40000 ∧ kvs'.length + 2 * (greedy S v f (z.map fun x => x.2)).length ≤ 90000 ∧
        (greedy S v f (z.map fun x => x.2)).foldl (jput v) kvs' = Kf ∧ ∃ v3 v4, σ' = [some (.ref d), some (.int (v : Int)), some (.ref l), v3, v4]) z.length ⟨l, z, kvs, ExB.refl, hd, hz, hg, Nat.le_refl _, hn, hb, hK, _, _, rfl⟩ ?_
    rintro f σ' H' ⟨l, z, kvs, xb, hd, hz, hg, hf, hn, hb, hK, v3, v4, rfl⟩
    refine ⟨_, et_test (ev_op (ev_lenL (ev_var rfl) (sq_of hz.1)) ev_c rv_I0), fun tb H1 e1 => ?_, fun tb H1 e1 => ?_⟩
    · have zl : 0 < z.length := by
        have := of_decide_eq_true tb
        rw [List.length_map] at this
        omega
      obtain ⟨b, r, rfl⟩ : ∃ b r, z = b :: r := List.exists_cons_of_ne_nil (List.length_pos_iff.mp zl)
      obtain ⟨f, rfl⟩ : ∃ g, f = g + 1 := ⟨f - 1, by simp at hf; omega⟩
      have gs : greedy S v (f + 1) ((b :: r).map fun x => x.2) = (bestOf S v b r).2 :: greedy S v f (((b :: r).filter fun p => !mt p.2 (bestOf S v b r).2).map fun x => x.2) := by
        rw [best_P, List.map_cons]
        show bestP S v b.2 _ :: greedy S v f _ = _
        congr 2
        rw [← List.map_cons (f := fun (x : Addr × (Nat × Nat)) => x.2), List.filter_map]
        rfl
      have bm := best_mem S v r b
      rw [gs] at hb hK
      generalize hbs : bestOf S v b r = bs at bm gs hb hK
      have hz1 := hz.mono e1
      have d1 := e1 _ _ hd
      have gb := hg bs bm
      refine ⟨_, fun σ2 H4 h => ⟨f, Nat.lt_succ_self f, h⟩, ?_⟩
      refine q_asg (v := .ref bs.1) (by rw [← hbs]; exact ev_call (ea_cons (ev_var rfl) ea_nil) (spv_first hz1 hg hP)) fun H2 e2 => ?_
      have hz2 := hz1.mono e2
      have d2 := e2 _ _ d1
      have xb2 := (xb.ex e1).ex e2
      simp only [List.length_cons] at hb
      have keep : ∀ {H4 : Hp} {kv kv' : List (List Key × V)}, H4 d = some (.dT kv) → PZ T.Pair.C S v H4 l (b :: r) → PZ T.Pair.C S v (upd H4 d (.dT kv')) l (b :: r) := by
        intro H4 kv kv' hd4 h
        refine ⟨by rw [upd_ne (ne_of h.1 hd4 (by intro z; cases z))]; exact h.1, fun x hx => ?_⟩
        obtain ⟨dx, q⟩ := h.2 x hx
        exact ⟨dx, by rw [upd_ne (ne_of q hd4 (by intro z; cases z))]; exact q⟩
      have two : ∀ x y : V, [x, y].length ≤ 100000 := fun _ _ => by show 2 ≤ 100000; decide
      have f2 := ev_pf (σ := [some (.ref d), some (.int (v : Int)), some (.ref l), some (.ref bs.1), v4]) (ta := tVar 3) cl (hz2.2 bs bm) (ev_var rfl)
      refine y_dputN (p := lnZ (v, bs.2.1)) (f2.2.1 T.Pair.na_other) (ev_var rfl) (eu_tup (ea_cons (ev_var rfl) (ea_cons (f2.1 T.Pair.na_one) ea_nil)) (two _ _)) d2 (sz_lt (by omega)) fun H3 e3 => ?_
      have hz3 := keep (e3 _ _ d2) (kv' := putK kvs (kP (v, bs.2.1)) (.int (bs.2.2 : Int))) (hz2.mono e3)
      have xb3 := (xb2.ex e3).put (o := .dT (putK kvs (kP (v, bs.2.1)) (.int (bs.2.2 : Int))))
      have d3 : (upd H3 d (.dT (putK kvs (kP (v, bs.2.1)) (.int (bs.2.2 : Int))))) d = some (.dT (putK kvs (kP (v, bs.2.1)) (.int (bs.2.2 : Int)))) := upd_same
      show tSeq _ _ _ _ (upd H3 d (.dT (putK kvs (kP (v, bs.2.1)) (.int (bs.2.2 : Int)))))
      generalize upd H3 d (.dT (putK kvs (kP (v, bs.2.1)) (.int (bs.2.2 : Int)))) = H4 at hz3 xb3 d3
      have f4 := ev_pf (σ := [some (.ref d), some (.int (v : Int)), some (.ref l), some (.ref bs.1), v4]) (ta := tVar 3) cl (hz3.2 bs bm) (ev_var rfl)
      have pl := put_len kvs (kP (v, bs.2.1)) (.int (bs.2.2 : Int))
      refine y_dputN (p := lnZ (v, bs.2.2)) (f4.1 T.Pair.na_one) (ev_var rfl) (eu_tup (ea_cons (ev_var rfl) (ea_cons (f4.2.1 T.Pair.na_other) ea_nil)) (two _ _)) d3 (sz_lt (by omega)) fun H5 e5 => ?_
      have hz5 := keep (e5 _ _ d3) (kv' := jput v kvs bs.2) (hz3.mono e5)
      have xb5 := (xb3.ex e5).put (o := .dT (jput v kvs bs.2))
      have d5 : (upd H5 d (.dT (jput v kvs bs.2))) d = some (.dT (jput v kvs bs.2)) := upd_same
      show tAsg _ _ _ _ (upd H5 d (.dT (jput v kvs bs.2)))
      generalize upd H5 d (.dT (jput v kvs bs.2)) = H6 at hz5 xb5 d5
      have pl2 := put_len (putK kvs (kP (v, bs.2.1)) (.int (bs.2.2 : Int))) (kP (v, bs.2.2)) (.int (bs.2.1 : Int))
      have pl3 : (jput v kvs bs.2).length ≤ kvs.length + 2 := Nat.le_trans pl2 (by omega)
      have at1 : ∀ (i : Nat) (x : V), ((b :: r).map fun x => V.ref x.1)[i]? = some x → x = .ref ((b :: r).getD i bs).1 ∧ (b :: r).getD i bs ∈ b :: r := by
        intro i x hi
        rw [List.getElem?_map] at hi
        obtain ⟨y, hy, rfl⟩ := Option.map_eq_some_iff.mp hi
        rw [List.getD_eq_getElem?_getD, hy]
        exact ⟨rfl, List.mem_of_getElem? hy⟩
      refine s_asgL (el_lcL (fun i => !mt ((b :: r).getD i bs).2 bs.2) (fun i => .ref ((b :: r).getD i bs).1) (ev_var rfl) (sq_of hz5.1) (by rw [List.length_map]; omega) (fun x => rfl) (fun i x H7 e7 hi => ?_) (fun i x H7 e7 hi _ => ?_)) fun p H7 hp e7 h7 => ?_
      · obtain ⟨rfl, ym⟩ := at1 i x hi
        exact et_not (et_B (ev_call (ea_cons (ev_var rfl) (ea_cons (ev_var rfl) ea_nil)) (spv_meets ((hz5.2 _ ym).mono e7) ((hz5.2 bs bm).mono e7))))
      · obtain ⟨rfl, ym⟩ := at1 i x hi
        exact ev_var rfl
      · rw [List.length_map, given_filter (b :: r) (fun p => !mt p.2 bs.2) (fun x => .ref x.1) bs] at h7
        refine ⟨p, (b :: r).filter fun p => !mt p.2 bs.2, jput v kvs bs.2, xb5.ex e7, e7 _ _ d5, ⟨h7, fun x hx => (hz5.2 x (List.mem_filter.mp hx).1).mono e7⟩, fun x hx => hg x (List.mem_filter.mp hx).1, ?_, by omega, by omega, hK, _, _, rfl⟩
        have := filter_less (p := fun p => !mt p.2 bs.2) bm (by rw [mt_self]; rfl)
        omega
    · have zl : z = [] := by
        have := of_decide_eq_false tb
        rw [List.length_map] at this
        exact List.eq_nil_of_length_eq_zero (by omega)
      subst zl
      have g0 : greedy S v f (([] : List (Addr × (Nat × Nat))).map fun x => x.2) = [] := by cases f <;> rfl
      rw [g0] at hK
      have hK : kvs = Kf := hK
      subst hK
      exact k H1 (xb.ex e1) (e1 _ _ hd)
end
end Lead
namespace Lead
open GlaPlan
/-! ### orders -/
section
variable {α : Type} {before : α → α → Bool}
theorem putIn_perm (x : α) : ∀ l : List α, (putIn before x l).Perm (x :: l)
  | [] => List.Perm.refl _
  | y :: r => by
    unfold putIn
    split
    · exact List.Perm.refl _
    · exact ((putIn_perm x r).cons y).trans (List.Perm.swap x y r)
theorem inOrder_perm : ∀ l : List α, (inOrder before l).Perm l
  | [] => List.Perm.refl _
  | x :: l => (putIn_perm x (inOrder before l)).trans ((inOrder_perm l).cons x)
/-- an order of the items of a list -/
structure Ord (before : α → α → Bool) (M : α → Prop) : Prop where
  irr : ∀ x, M x → before x x = false
  tr : ∀ x y z, M x → M y → M z → before x y = true → before y z = true → before x z = true
  tot : ∀ x y, M x → M y → x ≠ y → before x y = true ∨ before y x = true
variable {M : α → Prop}
theorem Ord.asy (O : Ord before M) {x y : α} (hx : M x) (hy : M y) (h : before x y = true) : before y x = false := by
  cases c : before y x with
  | false => rfl
  | true =>
    have := O.tr x y x hx hy hx h c
    rw [O.irr x hx] at this
    cases this
theorem putIn_srt (O : Ord before M) {x : α} (hx : M x) : ∀ l : List α, (∀ y ∈ l, M y) → x ∉ l → l.Pairwise (fun a b => before a b = true) → (putIn before x l).Pairwise (fun a b => before a b = true)
  | [], _, _, _ => by simp [putIn]
  | y :: r, hm, hn, hp => by
    obtain ⟨p1, p2⟩ := List.pairwise_cons.mp hp
    have hy := hm y (by simp)
    unfold putIn
    by_cases c : before x y = true
    · rw [if_pos c, List.pairwise_cons]
      refine ⟨fun z hz => ?_, hp⟩
      rcases List.mem_cons.mp hz with rfl | hz
      · exact c
      · exact O.tr x y z hx hy (hm z (by simp [hz])) c (p1 z hz)
    · rw [if_neg c, List.pairwise_cons]
      refine ⟨fun z hz => ?_, putIn_srt O hx r (fun z hz => hm z (by simp [hz])) (fun z => hn (by simp [z])) p2⟩
      rcases List.mem_cons.mp ((putIn_perm x r).mem_iff.mp hz) with rfl | hz
      · rcases O.tot z y hx hy (by rintro rfl; exact hn (by simp)) with q | q
        · exact absurd q c
        · exact q
      · exact p1 z hz
theorem inOrder_srt (O : Ord before M) : ∀ l : List α, (∀ y ∈ l, M y) → l.Nodup → (inOrder before l).Pairwise (fun a b => before a b = true)
  | [], _, _ => List.Pairwise.nil
  | x :: l, hm, nd => by
    obtain ⟨n1, n2⟩ := List.nodup_cons.mp nd
    have pm := inOrder_perm (before := before) l
    exact putIn_srt O (hm x (by simp)) (inOrder before l) (fun y hy => hm y (by simp [pm.mem_iff.mp hy])) (fun z => n1 (pm.mem_iff.mp z)) (inOrder_srt O l (fun y hy => hm y (by simp [hy])) n2)
/-- the least -/
def leastOf (before : α → α → Bool) (b : α) (l : List α) : α := l.foldl (fun b p => if before p b = true then p else b) b
theorem least_spec (O : Ord before M) : ∀ (l : List α) (b : α), M b → (∀ y ∈ l, M y) → M (leastOf before b l) ∧ leastOf before b l ∈ b :: l ∧ ∀ y ∈ b :: l, before y (leastOf before b l) = false
  | [], b, hb, _ => ⟨hb, by simp [leastOf], fun y hy => by
    rw [List.mem_singleton.mp hy]
    exact O.irr b hb⟩
  | p :: l, b, hb, hm => by
    have hp := hm p (by simp)
    have e : leastOf before b (p :: l) = leastOf before (if before p b = true then p else b) l := rfl
    rw [e]
    by_cases c : before p b = true
    · rw [if_pos c]
      obtain ⟨q1, q2, q3⟩ := least_spec O l p hp (fun y hy => hm y (by simp [hy]))
      refine ⟨q1, by simp [List.mem_cons.mp q2], fun y hy => ?_⟩
      rcases List.mem_cons.mp hy with rfl | hy
      · cases z : before y (leastOf before p l) with
        | false => rfl
        | true =>
          have := O.tr p y _ hp hb q1 c z
          rw [q3 p (by simp)] at this
          cases this
      · exact q3 y hy
    · rw [if_neg c]
      obtain ⟨q1, q2, q3⟩ := least_spec O l b hb (fun y hy => hm y (by simp [hy]))
      refine ⟨q1, ?_, fun y hy => ?_⟩
      · rcases List.mem_cons.mp q2 with q | q
        · rw [q]
          simp
        · simp [q]
      · rcases List.mem_cons.mp hy with rfl | hy
        · exact q3 y (by simp)
        · rcases List.mem_cons.mp hy with rfl | hy
          · cases z : before y (leastOf before b l) with
            | false => rfl
            | true =>
              by_cases e2 : leastOf before b l = b
              · rw [e2] at z
                exact absurd z c
              · rcases O.tot _ _ q1 hb e2 with w | w
                · have := O.tr y _ b hp q1 hb z w
                  exact absurd this c
                · rw [q3 b (by simp)] at w
                  cases w
          · exact q3 y (by simp [hy])
/-- the head of an ordered list is the least of it -/
theorem head_least (O : Ord before M) {b : α} {t : List α} {c : α} {r : List α} (hm : ∀ y ∈ b :: t, M y) (hs : (b :: t).Pairwise (fun a b => before a b = true)) (pm : (c :: r).Perm (b :: t)) : leastOf before c r = b := by
  have hm2 : ∀ y ∈ c :: r, M y := fun y hy => hm y (pm.mem_iff.mp hy)
  obtain ⟨q1, q2, q3⟩ := least_spec O r c (hm2 c (by simp)) (fun y hy => hm2 y (by simp [hy]))
  have bm := pm.mem_iff.mpr (show b ∈ b :: t by simp)
  rcases List.mem_cons.mp (pm.mem_iff.mp q2) with e | e
  · exact e
  · have := (List.pairwise_cons.mp hs).1 _ e
    rw [q3 b bm] at this
    cases this
end
/-! ### the greedy join -/
def jFold (done l : List (Nat × Nat)) : List (Nat × Nat) := l.foldl (fun (done : List (Nat × Nat)) (x : Nat × Nat) => if done.any (fun (y : Nat × Nat) => y.1 == x.1 || (y.1 == x.2 || (y.2 == x.1 || y.2 == x.2))) = true then done else done ++ [x]) done
theorem jFold_cons (b : Nat × Nat) : ∀ (l done : List (Nat × Nat)), jFold (b :: done) l = b :: jFold done (l.filter fun p => !mt p b)
  | [], done => rfl
  | x :: l, done => by
    have e1 : jFold (b :: done) (x :: l) = jFold (if (mt x b || done.any (fun y => mt x y)) = true then b :: done else b :: (done ++ [x])) l := rfl
    rw [e1]
    by_cases c : mt x b = true
    · rw [c, Bool.true_or, if_pos rfl, jFold_cons b l, List.filter_cons_of_neg (by rw [c]; decide)]
    · have c : mt x b = false := by simpa using c
      rw [c, Bool.false_or, List.filter_cons_of_pos (by rw [c]; rfl)]
      have e2 : jFold done (x :: l.filter fun p => !mt p b) = jFold (if done.any (fun y => mt x y) = true then done else done ++ [x]) (l.filter fun p => !mt p b) := rfl
      rw [e2]
      split
      · exact jFold_cons b l done
      · exact jFold_cons b l (done ++ [x])
theorem greedy_fold {S : Plan} {v : Nat} {M : Nat × Nat → Prop} (O : Ord (GlaLead.pairBefore S v) M) : ∀ (n : Nat) (l k : List (Nat × Nat)), (∀ y ∈ l, M y) → l.Pairwise (fun a b => GlaLead.pairBefore S v a b = true) → k.Perm l → k.length ≤ n → greedy S v n k = jFold [] l
  | 0, l, k, _, _, pm, hn => by
    have : k = [] := List.eq_nil_of_length_eq_zero (by omega)
    subst this
    rw [pm.symm.eq_nil]
    rfl
  | n + 1, l, [], _, _, pm, _ => by
    rw [pm.symm.eq_nil]
    rfl
  | n + 1, [], c :: r, _, _, pm, _ => by
    cases pm.eq_nil
  | n + 1, b :: t, c :: r, hm, hs, pm, hn => by
    have hb : bestP S v c r = b := head_least O hm hs pm
    have e : greedy S v (n + 1) (c :: r) = bestP S v c r :: greedy S v n ((c :: r).filter fun p => !mt p (bestP S v c r)) := rfl
    have e2 : jFold [] (b :: t) = jFold [b] t := rfl
    rw [e, hb, e2, jFold_cons]
    congr 1
    have fb : (b :: t).filter (fun p => !mt p b) = t.filter (fun p => !mt p b) := List.filter_cons_of_neg (by rw [mt_self]; decide)
    have pf := pm.filter (fun p => !mt p b)
    rw [fb] at pf
    refine greedy_fold O n _ _ (fun y hy => hm y (by simp [(List.mem_filter.mp hy).1])) ?_ pf ?_
    · exact List.Pairwise.filter _ (List.pairwise_cons.mp hs).2
    · have := filter_less (p := fun p => !mt p b) (l := c :: r) (x := b) (pm.mem_iff.mpr (by simp)) (by rw [mt_self]; rfl)
      omega
theorem line_tr {a b c : Nat × Nat} (h1 : lineBelow a b = true) (h2 : lineBelow b c = true) : lineBelow a c = true := by
  rw [lineBelow_iff] at *
  omega
theorem line_irr (a : Nat × Nat) : lineBelow a a = false := by
  rw [Bool.eq_false_iff, Ne, lineBelow_iff]
  omega
theorem line_tot {a b : Nat × Nat} (h : a ≠ b) : lineBelow a b = true ∨ lineBelow b a = true := by
  rw [lineBelow_iff, lineBelow_iff]
  have : a.1 ≠ b.1 ∨ a.2 ≠ b.2 := by
    false_or_by_contra
    rename_i q
    exact h (Prod.ext (by omega) (by omega))
  omega
theorem line_ord : Ord lineBelow (fun _ => True) := ⟨fun x _ => line_irr x, fun x y z _ _ _ => line_tr, fun x y _ _ => line_tot⟩
/-- the order of pairs, over what is asked of them -/
theorem pair_ord (S : Plan) (v : Nat) : Ord (GlaLead.pairBefore S v) (fun x => 0 < (GlaLead.bendOf S v x.1 x.2).2) := by
  have iff : ∀ x y : Nat × Nat, GlaLead.pairBefore S v x y = true ↔ ((GlaLead.bendOf S v x.1 x.2).1 * (GlaLead.bendOf S v y.1 y.2).2.toNat < (GlaLead.bendOf S v y.1 y.2).1 * (GlaLead.bendOf S v x.1 x.2).2.toNat ∨
      ((GlaLead.bendOf S v x.1 x.2).1 * (GlaLead.bendOf S v y.1 y.2).2.toNat = (GlaLead.bendOf S v y.1 y.2).1 * (GlaLead.bendOf S v x.1 x.2).2.toNat ∧ lineBelow x y = true)) := by
    intro x y
    unfold GlaLead.pairBefore
    simp only [Bool.or_eq_true, Bool.and_eq_true, decide_eq_true_eq, beq_iff_eq]
  refine ⟨fun x hx => ?_, fun x y z hx hy hz h1 h2 => ?_, fun x y hx hy ne => ?_⟩
  · rw [Bool.eq_false_iff, Ne, iff]
    have := line_irr x
    rw [this]
    simp
  · rw [iff] at h1 h2 ⊢
    have py : 0 < (GlaLead.bendOf S v y.1 y.2).2.toNat := by omega
    have px : 0 < (GlaLead.bendOf S v x.1 x.2).2.toNat := by omega
    have pz : 0 < (GlaLead.bendOf S v z.1 z.2).2.toNat := by omega
    generalize (GlaLead.bendOf S v x.1 x.2).1 = a at *
    generalize (GlaLead.bendOf S v y.1 y.2).1 = b at *
    generalize (GlaLead.bendOf S v z.1 z.2).1 = c at *
    generalize (GlaLead.bendOf S v x.1 x.2).2.toNat = p at *
    generalize (GlaLead.bendOf S v y.1 y.2).2.toNat = q at *
    generalize (GlaLead.bendOf S v z.1 z.2).2.toNat = r at *
    -- a q ≤ b p, b r ≤ c q
    have e1 : (a * r) * q = (a * q) * r := by grind
    have e2 : (c * p) * q = (c * q) * p := by grind
    have e3 : (b * p) * r = (b * r) * p := by grind
    rcases h1 with h1 | ⟨h1, l1⟩
    · left
      have h2' : b * r ≤ c * q := by omega
      have m1 : (a * q) * r < (b * p) * r := Nat.mul_lt_mul_of_pos_right h1 pz
      have m2 : (b * r) * p ≤ (c * q) * p := Nat.mul_le_mul_right p h2'
      have : (a * r) * q < (c * p) * q := by omega
      exact Nat.lt_of_mul_lt_mul_right this
    · have m1 : (a * q) * r = (b * p) * r := by rw [h1]
      rcases h2 with h2 | ⟨h2, l2⟩
      · left
        have m2 : (b * r) * p < (c * q) * p := Nat.mul_lt_mul_of_pos_right h2 px
        have : (a * r) * q < (c * p) * q := by omega
        exact Nat.lt_of_mul_lt_mul_right this
      · right
        have m2 : (b * r) * p = (c * q) * p := by rw [h2]
        have : (a * r) * q = (c * p) * q := by omega
        exact ⟨Nat.eq_of_mul_eq_mul_right py this, line_tr l1 l2⟩
  · rw [iff, iff]
    have := line_tot ne
    rcases Nat.lt_trichotomy ((GlaLead.bendOf S v x.1 x.2).1 * (GlaLead.bendOf S v y.1 y.2).2.toNat) ((GlaLead.bendOf S v y.1 y.2).1 * (GlaLead.bendOf S v x.1 x.2).2.toNat) with q | q | q
    · exact .inl (.inl q)
    · rcases this with w | w
      · exact .inl (.inr ⟨q, w⟩)
      · exact .inr (.inr ⟨q.symm, w⟩)
    · exact .inr (.inl q)
/-! ### the pairs of the specification -/
theorem leads_asc (S : Plan) : (GlaLead.leads S).Pairwise (fun a b => a < b) := List.Pairwise.filter _ List.pairwise_lt_range
theorem leadsAt_asc (S : Plan) (v : Nat) : (GlaLead.leadsAt S v).Pairwise (fun a b => a < b) := List.Pairwise.filter _ (leads_asc S)
theorem raw_eq (f : Nat × Nat → Bool) (L : List Nat) (h : L.Pairwise (fun a b => a < b)) : rawP f L L.length = (L.flatMap fun i => L.map fun j => (i, j)).filter fun x => decide (x.1 < x.2) && f x := by
  have row : ∀ k, k < L.length → rowP f L k = (L.map fun j => (L.getD k 0, j)).filter fun x => decide (x.1 < x.2) && f x := by
    intro k hk
    have gk : L.getD k 0 = L[k] := by rw [List.getD_eq_getElem?_getD, List.getElem?_eq_getElem hk]; rfl
    have sp : L = L.take (k + 1) ++ L.drop (k + 1) := (List.take_append_drop _ _).symm
    have r1 : (L.map fun j => (L.getD k 0, j)) = ((L.take (k + 1)).map fun j => (L.getD k 0, j)) ++ ((L.drop (k + 1)).map fun j => (L.getD k 0, j)) := by
      rw [← List.map_append, List.take_append_drop]
    rw [r1, List.filter_append]
    have n1 : (((L.take (k + 1)).map fun j => (L.getD k 0, j)).filter fun x => decide (x.1 < x.2) && f x) = [] := by
      rw [List.filter_eq_nil_iff]
      intro x hx
      obtain ⟨j, hj, rfl⟩ := List.mem_map.mp hx
      obtain ⟨m, hm, rfl⟩ := List.getElem_of_mem hj
      rw [List.length_take] at hm
      have : L[m]'(by omega) ≤ L[k] := by
        by_cases c : m = k
        · subst c
          exact Nat.le_refl _
        · exact Nat.le_of_lt (List.pairwise_iff_getElem.mp h m k (by omega) hk (by omega))
      rw [List.getElem_take, gk]
      simp
      omega
    rw [n1, List.nil_append]
    unfold rowP
    refine List.filter_congr fun x hx => ?_
    obtain ⟨j, hj, rfl⟩ := List.mem_map.mp hx
    obtain ⟨m, hm, rfl⟩ := List.getElem_of_mem hj
    rw [List.length_drop] at hm
    have : L[k] < (L.drop (k + 1))[m]'(by rw [List.length_drop]; exact hm) := by
      rw [List.getElem_drop]
      exact List.pairwise_iff_getElem.mp h k _ hk (by omega) (by omega)
    rw [gk, decide_eq_true this, Bool.true_and]
  have all : ∀ n, n ≤ L.length → rawP f L n = ((L.take n).flatMap fun i => L.map fun j => (i, j)).filter fun x => decide (x.1 < x.2) && f x := by
    intro n
    induction n with
    | zero => intro _; rfl
    | succ n ih =>
      intro hn
      have hk : L[n]? = some (L.getD n 0) := by rw [List.getD_eq_getElem?_getD, List.getElem?_eq_getElem (by omega)]; rfl
      rw [rawP_succ, ih (by omega), row n (by omega), take_snoc hk, List.flatMap_append, List.filter_append]
      simp
  rw [all L.length (Nat.le_refl _), List.take_length]
def rawS (s : GlaLead.LeadShop) (S : Plan) (v : Nat) : List (Nat × Nat) := rawP (thru s.a s.b S v) (GlaLead.leadsAt S v) (GlaLead.leadsAt S v).length
theorem rawS_mem {s : GlaLead.LeadShop} {S : Plan} {v : Nat} {x : Nat × Nat} (h : x ∈ rawS s S v) : (x.1 ∈ GlaLead.leadsAt S v ∧ x.2 ∈ GlaLead.leadsAt S v) ∧ x.1 < x.2 ∧ thru s.a s.b S v x = true := by
  unfold rawS at h
  rw [raw_eq _ _ (leadsAt_asc S v), List.mem_filter, List.mem_flatMap] at h
  obtain ⟨⟨i, hi, h1⟩, h2⟩ := h
  obtain ⟨j, hj, rfl⟩ := List.mem_map.mp h1
  rw [Bool.and_eq_true, decide_eq_true_iff] at h2
  exact ⟨⟨hi, hj⟩, h2⟩
theorem nodup_asc {L : List Nat} (h : L.Pairwise (fun a b => a < b)) : L.Nodup := List.Pairwise.imp (fun h => Nat.ne_of_lt h) h
theorem pairs_nodup {L : List Nat} (nd : L.Nodup) (M : List Nat) (hM : M.Nodup) : (M.flatMap fun i => L.map fun j => (i, j)).Nodup := by
  induction M with
  | nil => exact List.nodup_nil
  | cons i M ih =>
    obtain ⟨n1, n2⟩ := List.nodup_cons.mp hM
    rw [List.flatMap_cons, List.nodup_append]
    refine ⟨?_, ih n2, fun x hx y hy => ?_⟩
    · rw [List.nodup_iff_pairwise_ne, List.pairwise_map]
      exact List.Pairwise.imp (fun h z => h (Prod.mk.inj z).2) (List.nodup_iff_pairwise_ne.mp nd)
    · obtain ⟨j, _, rfl⟩ := List.mem_map.mp hx
      obtain ⟨i2, hi2, h2⟩ := List.mem_flatMap.mp hy
      obtain ⟨j2, _, rfl⟩ := List.mem_map.mp h2
      intro z
      have := (Prod.mk.inj z).1
      subst this
      exact n1 hi2
theorem rawS_nodup (s : GlaLead.LeadShop) (S : Plan) (v : Nat) : (rawS s S v).Nodup := by
  unfold rawS
  rw [raw_eq _ _ (leadsAt_asc S v)]
  exact List.nodup_iff_pairwise_ne.mpr (List.Pairwise.filter _ (List.nodup_iff_pairwise_ne.mp (pairs_nodup (nodup_asc (leadsAt_asc S v)) _ (nodup_asc (leadsAt_asc S v)))))
/-- **the joins of a point**: the program's greedy way gives the specification's -/
theorem joins_eq (s : GlaLead.LeadShop) (S : Plan) (v : Nat) (h : GlaLead.onFrame S (S.pt v) = false) : GlaLead.joinsAt s S v = greedy S v (rawS s S v).length (rawS s S v) := by
  have e : GlaLead.pairsAt s S v = inOrder (GlaLead.pairBefore S v) (rawS s S v) := by
    unfold GlaLead.pairsAt rawS
    rw [raw_eq _ _ (leadsAt_asc S v)]
    rfl
  have pos : ∀ x ∈ rawS s S v, 0 < (GlaLead.bendOf S v x.1 x.2).2 := fun x hx => by
    have := (rawS_mem hx).2.2
    unfold thru at this
    rw [Bool.and_eq_true, decide_eq_true_iff] at this
    exact this.1
  have pm := inOrder_perm (before := GlaLead.pairBefore S v) (rawS s S v)
  unfold GlaLead.joinsAt
  rw [if_neg (by rw [h]; decide), e]
  exact (greedy_fold (pair_ord S v) _ _ _ (fun y hy => pos y (pm.mem_iff.mp hy)) (inOrder_srt (pair_ord S v) _ pos (rawS_nodup s S v)) pm.symm (Nat.le_refl _)).symm
end Lead
namespace Lead
open GlaPlan
theorem greedy_mem {S : Plan} {v : Nat} : ∀ (n : Nat) (k : List (Nat × Nat)), (∀ x ∈ greedy S v n k, x ∈ k) ∧ (greedy S v n k).Pairwise (fun b p => mt p b = false)
  | 0, k => ⟨by simp [greedy], by simp [greedy]⟩
  | n + 1, [] => ⟨by simp [greedy], by simp [greedy]⟩
  | n + 1, b :: r => by
    obtain ⟨h1, h2⟩ := greedy_mem n ((b :: r).filter fun p => !mt p (bestP S v b r))
    have e : greedy S v (n + 1) (b :: r) = bestP S v b r :: greedy S v n ((b :: r).filter fun p => !mt p (bestP S v b r)) := rfl
    rw [e]
    refine ⟨fun x hx => ?_, List.pairwise_cons.mpr ⟨fun p hp => ?_, h2⟩⟩
    · rcases List.mem_cons.mp hx with rfl | hx
      · exact bestP_mem S v r b
      · exact (List.mem_filter.mp (h1 x hx)).1
    · have := (List.mem_filter.mp (h1 p hp)).2
      simpa using this
theorem mt_false {p b : Nat × Nat} (h : mt p b = false) : b.1 ≠ p.1 ∧ b.1 ≠ p.2 ∧ b.2 ≠ p.1 ∧ b.2 ≠ p.2 := by
  unfold mt at h
  simp only [Bool.or_eq_false_iff, beq_eq_false_iff_ne] at h
  exact ⟨h.1, h.2.1, h.2.2.1, h.2.2.2⟩
/-- what the joins of a point are -/
structure JF (S : Plan) (v : Nat) (js : List (Nat × Nat)) : Prop where
  i : ∀ x ∈ js, x.1 ∈ GlaLead.leadsAt S v
  j : ∀ x ∈ js, x.2 ∈ GlaLead.leadsAt S v
  lt : ∀ x ∈ js, x.1 < x.2
  dis : js.Pairwise (fun b p => mt p b = false)
theorem joins_facts (s : GlaLead.LeadShop) (S : Plan) (v : Nat) : JF S v (GlaLead.joinsAt s S v) := by
  by_cases c : GlaLead.onFrame S (S.pt v) = true
  · have : GlaLead.joinsAt s S v = [] := by
      unfold GlaLead.joinsAt
      rw [if_pos c]
    rw [this]
    exact ⟨by simp, by simp, by simp, List.Pairwise.nil⟩
  · have c : GlaLead.onFrame S (S.pt v) = false := by simpa using c
    rw [joins_eq s S v c]
    obtain ⟨h1, h2⟩ := greedy_mem (S := S) (v := v) (rawS s S v).length (rawS s S v)
    exact ⟨fun x hx => (rawS_mem (h1 x hx)).1.1, fun x hx => (rawS_mem (h1 x hx)).1.2, fun x hx => (rawS_mem (h1 x hx)).2.1, h2⟩
def lookJ (js : List (Nat × Nat)) (i : Nat) : Option Nat := js.findSome? fun (x : Nat × Nat) => if x.1 = i then some x.2 else if x.2 = i then some x.1 else none
theorem onward_look (s : GlaLead.LeadShop) (S : Plan) (v i : Nat) : GlaLead.onward s S v i = lookJ (GlaLead.joinsAt s S v) i := rfl
theorem JF.firsts {S : Plan} {v : Nat} {js : List (Nat × Nat)} (h : JF S v js) : js.length ≤ (GlaLead.leadsAt S v).length := by
  have nd : (js.map fun x => x.1).Nodup := by
    rw [List.nodup_iff_pairwise_ne, List.pairwise_map]
    exact List.Pairwise.imp (fun q => (mt_false q).1) h.dis
  have := nodup_len nd (w := GlaLead.leadsAt S v) fun a ha => by
    obtain ⟨x, hx, rfl⟩ := List.mem_map.mp ha
    exact h.i x hx
  rwa [List.length_map] at this
theorem look_some {js : List (Nat × Nat)} {i j : Nat} (h : lookJ js i = some j) : (i, j) ∈ js ∨ (j, i) ∈ js := by
  unfold lookJ at h
  obtain ⟨x, hx, e⟩ := List.exists_of_findSome?_eq_some h
  by_cases c : x.1 = i
  · rw [if_pos c] at e
    left
    rw [← c, ← Option.some.inj e]
    exact hx
  · rw [if_neg c] at e
    by_cases d : x.2 = i
    · rw [if_pos d] at e
      right
      rw [← d, ← Option.some.inj e]
      exact hx
    · rw [if_neg d] at e
      cases e
/-- a join is found from both its leads -/
theorem look_of {S : Plan} {v : Nat} : ∀ {js : List (Nat × Nat)}, (∀ x ∈ js, x.1 < x.2) → js.Pairwise (fun b p => mt p b = false) → ∀ x ∈ js, lookJ js x.1 = some x.2 ∧ lookJ js x.2 = some x.1
  | [], _, _, x, hx => by cases hx
  | b :: js, hl, hp, x, hx => by
    obtain ⟨p1, p2⟩ := List.pairwise_cons.mp hp
    have hb := hl b (by simp)
    have e : ∀ i, lookJ (b :: js) i = if b.1 = i then some b.2 else if b.2 = i then some b.1 else lookJ js i := by
      intro i
      unfold lookJ
      rw [List.findSome?_cons]
      by_cases c : b.1 = i
      · rw [if_pos c, if_pos c]
      · rw [if_neg c, if_neg c]
        by_cases d : b.2 = i
        · rw [if_pos d, if_pos d]
        · rw [if_neg d, if_neg d]
    rcases List.mem_cons.mp hx with rfl | hx
    · refine ⟨by rw [e, if_pos rfl], by rw [e, if_neg (by omega), if_pos rfl]⟩
    · obtain ⟨n1, n2, n3, n4⟩ := mt_false (p1 x hx)
      obtain ⟨q1, q2⟩ := look_of (S := S) (v := v) (fun y hy => hl y (by simp [hy])) p2 x hx
      exact ⟨by rw [e, if_neg n1, if_neg n3, q1], by rw [e, if_neg n2, if_neg n4, q2]⟩
theorem onward_sym {s : GlaLead.LeadShop} {S : Plan} {v i j : Nat} (h : GlaLead.onward s S v i = some j) : GlaLead.onward s S v j = some i ∧ i ≠ j ∧ i ∈ GlaLead.leadsAt S v ∧ j ∈ GlaLead.leadsAt S v := by
  have F := joins_facts s S v
  rw [onward_look] at h ⊢
  rcases look_some h with q | q
  · exact ⟨(look_of (S := S) (v := v) F.lt F.dis _ q).2, Nat.ne_of_lt (F.lt _ q), F.i _ q, F.j _ q⟩
  · exact ⟨(look_of (S := S) (v := v) F.lt F.dis _ q).1, (Nat.ne_of_lt (F.lt _ q)).symm, F.j _ q, F.i _ q⟩
/-! ### the dict of joins -/
open PySem L2 in
theorem jput_val (v : Nat) : ∀ (js : List (Nat × Nat)) (kvs : List (List Key × V)), (∀ x ∈ js, x.1 < x.2) → js.Pairwise (fun b p => mt p b = false) → ∀ u i, valV (js.foldl (jput v) kvs) (kP (u, i)) = if u = v then ((lookJ js i).map fun (j : Nat) => V.int (j : Int)).or (valV kvs (kP (u, i))) else valV kvs (kP (u, i))
  | [], kvs, _, _, u, i => by
    split <;> rfl
  | b :: js, kvs, hl, hp, u, i => by
    obtain ⟨p1, p2⟩ := List.pairwise_cons.mp hp
    have hb := hl b (by simp)
    have kp : ∀ w z : Nat × Nat, kP w = kP z ↔ w = z := fun w z => ⟨kP_inj, fun h => by rw [h]⟩
    rw [List.foldl_cons, jput_val v js (jput v kvs b) (fun y hy => hl y (by simp [hy])) p2 u i]
    unfold jput
    rw [valV_put, valV_put, if_iff (kp (u, i) (v, b.2)), if_iff (kp (u, i) (v, b.1))]
    have e : lookJ (b :: js) i = if b.1 = i then some b.2 else if b.2 = i then some b.1 else lookJ js i := by
      unfold lookJ
      rw [List.findSome?_cons]
      by_cases c : b.1 = i
      · rw [if_pos c, if_pos c]
      · rw [if_neg c, if_neg c]
        by_cases d : b.2 = i
        · rw [if_pos d, if_pos d]
        · rw [if_neg d, if_neg d]
    have no : ∀ k, (b.1 = k ∨ b.2 = k) → lookJ js k = none := by
      intro k hk
      cases q : lookJ js k with
      | none => rfl
      | some j =>
        rcases look_some q with w | w
        · obtain ⟨n1, n2, n3, n4⟩ := mt_false (p1 _ w)
          rcases hk with rfl | rfl
          · exact absurd rfl n1
          · exact absurd rfl n3
        · obtain ⟨n1, n2, n3, n4⟩ := mt_false (p1 _ w)
          rcases hk with rfl | rfl
          · exact absurd rfl n2
          · exact absurd rfl n4
    by_cases c : u = v
    · subst c
      rw [if_pos rfl, if_pos rfl, e]
      by_cases c1 : b.1 = i
      · subst c1
        rw [no _ (.inl rfl), if_pos rfl, if_neg (fun z => by have := (Prod.mk.inj z).2; omega), if_pos rfl]
        rfl
      · rw [if_neg c1]
        by_cases c2 : b.2 = i
        · subst c2
          rw [no _ (.inr rfl), if_pos rfl, if_pos rfl]
          rfl
        · rw [if_neg c2, if_neg (fun z => c2 (Prod.mk.inj z).2.symm), if_neg (fun z => c1 (Prod.mk.inj z).2.symm)]
    · rw [if_neg c, if_neg c, if_neg (fun z => c (Prod.mk.inj z).1), if_neg (fun z => c (Prod.mk.inj z).1)]
open PySem L2 in
theorem jput_len (v : Nat) : ∀ (js : List (Nat × Nat)) (kvs : List (List Key × V)), (js.foldl (jput v) kvs).length ≤ kvs.length + 2 * js.length
  | [], kvs => Nat.le_refl _
  | b :: js, kvs => by
    have h1 := jput_len v js (jput v kvs b)
    have h2 := put_len (putK kvs (kP (v, b.1)) (.int (b.2 : Int))) (kP (v, b.2)) (.int (b.1 : Int))
    have h3 := put_len kvs (kP (v, b.1)) (.int (b.2 : Int))
    have h4 : (jput v kvs b).length ≤ kvs.length + 2 := Nat.le_trans h2 (by omega)
    rw [List.foldl_cons, List.length_cons]
    omega
/-! ### few leads at a point -/
theorem line_inj {S : Plan} (O : Good S) {i j : Nat} (hi : i < S.lines.length) (hj : j < S.lines.length) (h : GlaLead.lineOf S i = GlaLead.lineOf S j) : i = j := by
  have e1 := (List.getElem?_eq_some_iff.mp (line_get hi)).2
  have e2 := (List.getElem?_eq_some_iff.mp (line_get hj)).2
  rw [← e1, ← e2] at h
  exact (List.getElem_inj O.lines_nd).mp h
theorem leadsAt_mem {S : Plan} {v i : Nat} (h : i ∈ GlaLead.leadsAt S v) : i ∈ GlaLead.leads S ∧ i < S.lines.length ∧ ((GlaLead.lineOf S i).1 = v ∨ (GlaLead.lineOf S i).2 = v) := by
  have h := List.mem_filter.mp h
  refine ⟨h.1, leads_lt h.1, by simpa using h.2⟩
theorem leadsAt_len {S : Plan} (O : Pre10 S) (v : Nat) : (GlaLead.leadsAt S v).length ≤ S.pts.length := by
  have nd : ((GlaLead.leadsAt S v).map fun i => GlaLead.other S i v).Nodup := by
    rw [List.nodup_iff_pairwise_ne, List.pairwise_map]
    refine List.Pairwise.imp_of_mem (R := fun a b => a < b) ?_ (leadsAt_asc S v)
    intro a b ha hb lt z
    obtain ⟨_, a1, a2⟩ := leadsAt_mem ha
    obtain ⟨_, b1, b2⟩ := leadsAt_mem hb
    have la := O.p.line_lt (line_mem a1)
    have lb := O.p.line_lt (line_mem b1)
    have : GlaLead.lineOf S a = GlaLead.lineOf S b := by
      unfold GlaLead.other at z
      refine Prod.ext ?_ ?_
      · split at z <;> split at z <;> omega
      · split at z <;> split at z <;> omega
    have := line_inj O.g a1 b1 this
    omega
  have := nodup_len nd (w := List.range S.pts.length) fun a ha => by
    obtain ⟨i, hi, rfl⟩ := List.mem_map.mp ha
    exact List.mem_range.mpr (other_lt O.p (leadsAt_mem hi).2.1)
  rwa [List.length_map, List.length_range] at this
end Lead
namespace Lead
open PySem PySem.Spec PyProof.Rows L2 Evl LeadT
open GlaPlan
/-- the joins, as a dict -/
def JD (s : GlaLead.LeadShop) (S : Plan) (H : Hp) (d : Addr) : Prop := ∃ kvs, H d = some (.dT kvs) ∧ ∀ u i, u < S.pts.length → valV kvs (kP (u, i)) = (GlaLead.onward s S u i).map fun (j : Nat) => V.int (j : Int)
theorem JD.mono {s : GlaLead.LeadShop} {S : Plan} {H H' : Hp} {d : Addr} (h : JD s S H d) (e : Ex H H') : JD s S H' d := let ⟨k, a, b⟩ := h; ⟨k, e _ _ a, b⟩
theorem sqL_offT {K : PySem.W.Frag} {H H' : Hp} {l d : Addr} {xs : List V} {kv : List (List Key × V)} (h : SqL K H l xs) (hd : H d = some (.dT kv)) (e : ExB d H H') : SqL K H' l xs := by
  rcases h with (h | ⟨o, h⟩) | h
  · exact .inl (.inl (e _ _ (ne_of h hd (by intro z; cases z)) h))
  · exact .inl (.inr ⟨o, e _ _ (ne_of h hd (by intro z; cases z)) h⟩)
  · exact .inr h
theorem exB_toEx {H0 H H' : Hp} {d : Addr} (e : Ex H0 H) (nd : H0 d = none) (x : ExB d H H') : Ex H0 H' := fun y o q => x y o (ne_of_none q nd) (e _ _ q)
theorem onward_frame {s : GlaLead.LeadShop} {S : Plan} {v i : Nat} (h : GlaLead.onFrame S (S.pt v) = true) : GlaLead.onward s S v i = none := by
  have : GlaLead.joinsAt s S v = [] := by
    unfold GlaLead.joinsAt
    rw [if_pos h]
  rw [onward_look, this]
  rfl
section
variable {P : Program} {w : World} {K : PySem.W.Frag} {mg : Str → Option Value} {base : Heap}
def spJoins (K : PySem.W.Frag) (C : Addr) : Sp := fun vs H Q _ => ∃ (a l : Addr) (sz : Nat) (S : Plan) (s : GlaLead.LeadShop), vs = [.ref a, .ref l, .int (s.a : Int), .int (s.b : Int)] ∧ Dw K C H a sz S ∧ Pre10 S ∧ S.pts.length ≤ 200 ∧ SqL K H l (nv (GlaLead.leads S)) ∧
  ∀ d H', H d = none → Ex H H' → JD s S H' d → Q (.ref d) H'
theorem spv_onE {C a : Addr} {H : Hp} {sz : Nat} {S : Plan} {v : Nat} {iz : Int} (D : Dw K C H a sz S) (hv : v < S.pts.length) (e : iz = (v : Int)) : SpV (spOnE K C) [.ref a, .int iz] H (.bl (GlaLead.onFrame S (S.pt v))) := fun H1 e1 Q q E => ⟨a, sz, S, v, by rw [e], D.mono e1, hv, q⟩
theorem ok_joins_of (T : Txt K mg) : FnOk P w K mg base CX0 5 T.joins_of.f T.joins_of.fd ["drawing", "leads", "a", "b"] (spJoins K T.Drawing.C) := by
  refine T.joins_of.F.ok sc_joins_of (fun vs H Q E h => ?_) (fun cdv A outer s H vs Q E hr h => ?_)
  · obtain ⟨a, l, sz, S, s, rfl, _⟩ := h
    rfl
  · refine ⟨_, (pss_cons (ps_set (i := 4) sc_joins_of.nd rfl (.inl rfl) pe_dnewT)
    (pss_cons (ps_for PassesOwn.never rfl (pi_enum (by rfl) T.n_enumerate (pa_cons (pe_call (ok_ending_at T) (hr.mono (by decide)) rfl T.ending_at.g T.ending_at.F.kp T.ending_at.b .nil pass0 (pa_cons (pv 0) (pa_cons (pv 1) pa_nil))) pa_nil)) (pg_tup rfl (pgs_cons (pg_name (i := 5) sc_joins_of.nd rfl (Or.inl rfl)) (pgs_cons (pg_name (i := 6) sc_joins_of.nd rfl (Or.inl rfl)) pgs_nil))) (pss_one (ps_if (pt_not (pt_val (pe_meth (pv 0) T.Drawing.cl T.Drawing.is_on_edge.m (ok_Drawing_is_on_edge T) (hr.mono (by decide)) T.Drawing.is_on_edge.b .nil pass0 (pa_cons (pv 5) pa_nil)))) (pss_one (ps_expr (pe_call (ok_join_at T) (hr.mono (by decide)) rfl T.join_at.g T.join_at.F.kp T.join_at.b .nil pass0 (pa_cons (pv 4) (pa_cons (pv 5) (pa_cons (pe_call (ok_pairs_at T) (hr.mono (by decide)) rfl T.pairs_at.g T.pairs_at.F.kp T.pairs_at.b .nil pass0 (pa_cons (pv 0) (pa_cons (pv 5) (pa_cons (pv 6) (pa_cons (pv 2) (pa_cons (pv 3) pa_nil)))))) pa_nil)))))) pss_nil)))
    (pss_one (ps_ret (pv 4))))), ?_⟩
    obtain ⟨a, l, sz, S, s, rfl, hD, hP, h200, hl, k⟩ := h
    have hD0 := hD
    obtain ⟨dx, c, l1, l2, l3, D⟩ := hD
    refine fun d nd => ?_
    have e1 : Ex H (upd H d (.dT [])) := Ex.new nd
    have d1 : (upd H d (.dT [])) d = some (.dT []) := upd_same
    show tSeq _ _ _ _ (upd H d (.dT []))
    generalize upd H d (.dT []) = H1 at e1 d1
    refine ⟨_, rfl, _, rfl, ?_⟩
    refine ⟨a, l, sz, S, rfl, hD0.mono e1, hP.p, ex_l e1 hl, fun p H2 np e2 hO => ?_⟩
    obtain ⟨as, q1, q2, q3⟩ := id hO
    rw [List.length_map, List.length_range] at q2
    have d2 := e2 _ _ d1
    have e12 := e1.trans e2
    refine ⟨p, _, rfl, q1, for_it walk_enum (fun m σ' H' => Ex H H' ∧ ExB d H2 H' ∧ (∃ kvs, H' d = some (.dT kvs) ∧ kvs.length ≤ 400 * m ∧ ∀ u i, valV kvs (kP (u, i)) = if u < m then (GlaLead.onward s S u i).map fun (j : Nat) => V.int (j : Int) else none) ∧ ∃ v5 v6, σ' = [some (.ref a), some (.ref l), some (.int (s.a : Int)), some (.int (s.b : Int)), some (.ref d), v5, v6])
      ⟨e12, ExB.refl, ⟨[], d2, Nat.zero_le _, fun u i => by rw [if_neg (by omega)]; rfl⟩, _, _, rfl⟩ (fun m σ' H' _ q => sqL_offT q1 d2 q.2.1) ?_ ?_⟩
    · rintro m x σ' H' H3 hm ⟨e, xb, ⟨kvs, hd, hk, hv⟩, v5, v6, rfl⟩ y
      obtain ⟨U, z1, z2, rfl, hU, rfl, ez1, ez2⟩ := y
      have ez1 : z1 = V.int (m : Nat) := (Option.some.inj ez1).symm
      subst ez1
      have lt : m < S.pts.length := by
        rw [List.length_map, q2] at hm
        exact hm
      have ha0 : as[m]? = some (as[m]'(by omega)) := List.getElem?_eq_getElem _
      generalize as[m]'(by omega) = ra at ha0
      have ez2 : (as.map V.ref)[m]? = some z2 := ez2
      rw [List.getElem?_map, ha0] at ez2
      have ez2 := Option.some.inj ez2
      subst ez2
      have hrow : SqL K H2 ra (nv (GlaLead.leadsAt S m)) := q3 m ra _ ha0 (by rw [List.getElem?_map, List.getElem?_range lt]; rfl)
      have eU : Ex H' (upd H' U (.tup [V.int (m : Nat), V.ref ra])) := Ex.new hU
      refine ⟨U, _, rfl, st_of upd_same, rfl, _, _, rfl, _, _, rfl, rfl, ?_⟩
      show tIfS _ _ _ _ _ (upd H' U (.tup [V.int (m : Nat), V.ref ra]))
      generalize upd H' U (.tup [V.int (m : Nat), V.ref ra]) = H3 at eU
      have e3 := e.trans eU
      have xb3 := xb.ex eU
      have d3 := eU _ _ hd
      have ll := leadsAt_len hP m
      refine s_when (et_not (et_B (ev_meth (ev_var rfl) (e3 _ _ D.ob) dF_no (ea_cons (ev_var rfl) ea_nil) (spv_onE (hD0.mono e3) lt rfl)))) (fun tb H4 e4 => ?_) (fun tb H4 e4 => ?_)
      · have nf : GlaLead.onFrame S (S.pt m) = false := by simpa using tb
        have e34 := e3.trans e4
        have xb4 := xb3.ex e4
        have d4 := e4 _ _ d3
        refine ⟨_, rfl, _, rfl, ?_⟩
        refine ⟨_, rfl, _, rfl, _, rfl, _, rfl, _, rfl, ?_⟩
        refine ⟨a, ra, sz, S, m, s.a, s.b, GlaLead.leadsAt S m, rfl, hD0.mono e34, hP.p, lt, sqL_offT hrow d2 xb4, by omega, fun i hi => (leadsAt_mem hi).2.1, fun pp z H5 npp e5 hz hzm => ?_⟩
        have je := joins_eq s S m nf
        have JFm := joins_facts s S m
        rw [je] at JFm
        have jl := JFm.firsts
        have rl : z.length = (rawS s S m).length := by
          have := congrArg List.length hzm
          rw [List.length_map] at this
          exact this
        have hzm' : z.map (fun x => x.2) = rawS s S m := hzm
        have jle := jput_len m (greedy S m (rawS s S m).length (rawS s S m)) kvs
        refine ⟨d, pp, S, m, z, kvs, rfl, e5 _ _ d4, hz, fun x hx => ?_, hP.p, ?_, ?_, fun H6 xb6 d6 => ?_⟩
        · have : x.2 ∈ rawS s S m := by
            rw [← hzm']
            exact List.mem_map.mpr ⟨x, hx, rfl⟩
          obtain ⟨⟨m1, m2⟩, _, m4⟩ := rawS_mem this
          unfold thru at m4
          rw [Bool.and_eq_true, decide_eq_true_iff] at m4
          exact ⟨⟨lt, (leadsAt_mem m1).2.1, (leadsAt_mem m2).2.1⟩, m4.1⟩
        · rw [rl]
          unfold rawS
          refine Nat.le_trans (rawP_len _ _ _) ?_
          exact Nat.mul_le_mul (by omega : _ ≤ 200) (by omega : _ ≤ 200)
        · rw [hzm', rl]
          omega
        · rw [hzm', rl] at d6
          refine ⟨exB_toEx (e34.trans e5) nd xb6, (xb4.ex e5).trans xb6, ⟨_, d6, by omega, fun u i => ?_⟩, _, _, rfl⟩
          rw [jput_val m _ kvs JFm.lt JFm.dis u i, hv u i]
          by_cases c : u = m
          · subst c
            rw [if_pos rfl, if_neg (by omega), if_pos (by omega), onward_look, je, Option.or_none]
          · rw [if_neg c]
            refine if_iff ?_
            omega
      · have nf : GlaLead.onFrame S (S.pt m) = true := by simpa using tb
        refine ⟨e3.trans e4, xb3.ex e4, ⟨kvs, e4 _ _ d3, by omega, fun u i => ?_⟩, _, _, rfl⟩
        rw [hv u i]
        by_cases c : u = m
        · subst c
          rw [if_neg (by omega), if_pos (by omega), onward_frame nf]
          rfl
        · refine if_iff ?_
          omega
    · rintro σ' H' ⟨e, xb, ⟨kvs, hd, hk, hv⟩, v5, v6, rfl⟩
      rw [List.length_map, q2] at hv
      refine s_ret (ev_var rfl) fun H4 e4 => k d H4 nd (e.trans e4) ⟨kvs, e4 _ _ hd, fun u i hu => ?_⟩
      rw [hv u i, if_pos hu]
end
end Lead
namespace Lead
open GlaPlan
/-! ### ways along leads -/
abbrev Dart := Nat × Nat
def nxt (s : GlaLead.LeadShop) (S : Plan) (d : Dart) : Option Dart := (GlaLead.onward s S (GlaLead.other S d.2 d.1) d.2).map fun j => (GlaLead.other S d.2 d.1, j)
def rev (S : Plan) (d : Dart) : Dart := (GlaLead.other S d.2 d.1, d.2)
structure VD (S : Plan) (d : Dart) : Prop where
  l : d.2 ∈ GlaLead.leads S
  e : (GlaLead.lineOf S d.2).1 = d.1 ∨ (GlaLead.lineOf S d.2).2 = d.1
def itn (s : GlaLead.LeadShop) (S : Plan) : Nat → Dart → Option Dart
  | 0, d => some d
  | k + 1, d => (itn s S k d).bind (nxt s S)
section
variable {s : GlaLead.LeadShop} {S : Plan}
theorem itn_add (a b : Nat) (d : Dart) : itn s S (a + b) d = (itn s S a d).bind (itn s S b) := by
  induction b with
  | zero =>
    show itn s S a d = (itn s S a d).bind some
    cases itn s S a d <;> rfl
  | succ b ih =>
    show (itn s S (a + b) d).bind (nxt s S) = _
    rw [ih]
    cases itn s S a d <;> rfl
theorem itn_succ' (k : Nat) (d : Dart) : itn s S (k + 1) d = (nxt s S d).bind (itn s S k) := by
  rw [Nat.add_comm, itn_add]
  rfl
/-- the darts of a way -/
def dk (s : GlaLead.LeadShop) (S : Plan) (d : Dart) (k : Nat) : Dart := (itn s S k d).getD d
/-- a way of m darts -/
structure Run (s : GlaLead.LeadShop) (S : Plan) (d : Dart) (m : Nat) : Prop where
  v : VD S d
  pos : 0 < m
  on : ∀ k, k < m → itn s S k d = some (dk s S d k)
  new : ∀ k, 0 < k → k < m → itn s S k d ≠ some d
  stop : itn s S m d = none ∨ itn s S m d = some d
theorem dk_some {d e : Dart} {k : Nat} (h : itn s S k d = some e) : dk s S d k = e := by
  unfold dk
  rw [h]
  rfl
variable (O : Pre10 S)
include O
theorem VD.two {d : Dart} (h : VD S d) : (GlaLead.lineOf S d.2).1 < (GlaLead.lineOf S d.2).2 := by
  have := O.p.line_lt (line_mem (leads_lt h.l))
  omega
theorem VD.oth {d : Dart} (h : VD S d) : (d.1 = (GlaLead.lineOf S d.2).1 ∧ GlaLead.other S d.2 d.1 = (GlaLead.lineOf S d.2).2) ∨ (d.1 = (GlaLead.lineOf S d.2).2 ∧ GlaLead.other S d.2 d.1 = (GlaLead.lineOf S d.2).1) := by
  have lt := h.two O
  unfold GlaLead.other
  rcases h.e with q | q
  · left
    rw [if_pos q]
    exact ⟨q.symm, rfl⟩
  · right
    rw [if_neg (by omega)]
    exact ⟨q.symm, rfl⟩
theorem VD.rv {d : Dart} (h : VD S d) : VD S (rev S d) := by
  refine ⟨h.l, ?_⟩
  show (GlaLead.lineOf S d.2).1 = GlaLead.other S d.2 d.1 ∨ (GlaLead.lineOf S d.2).2 = GlaLead.other S d.2 d.1
  rcases h.oth O with q | q <;> omega
theorem VD.rr {d : Dart} (h : VD S d) : rev S (rev S d) = d := by
  refine Prod.ext ?_ rfl
  show GlaLead.other S d.2 (GlaLead.other S d.2 d.1) = d.1
  have h2 : (GlaLead.other S d.2 d.1 = (GlaLead.lineOf S d.2).1 ∧ GlaLead.other S d.2 (GlaLead.other S d.2 d.1) = (GlaLead.lineOf S d.2).2) ∨ (GlaLead.other S d.2 d.1 = (GlaLead.lineOf S d.2).2 ∧ GlaLead.other S d.2 (GlaLead.other S d.2 d.1) = (GlaLead.lineOf S d.2).1) := (h.rv O).oth O
  have := h.two O
  rcases h.oth O with q | q <;> rcases h2 with w | w <;> omega
theorem VD.ne {d : Dart} (h : VD S d) : rev S d ≠ d := by
  intro z
  have z : GlaLead.other S d.2 d.1 = d.1 := (Prod.mk.inj z).1
  have := h.two O
  rcases h.oth O with q | q <;> omega
/-- a lead's two darts -/
theorem VD.same {d e : Dart} (h : VD S d) (k : VD S e) (q : e.2 = d.2) : e = d ∨ e = rev S d := by
  have h1 := h.oth O
  have ke := k.e
  rw [q] at ke
  rcases h1 with ⟨a, b⟩ | ⟨a, b⟩ <;> rcases ke with c | c
  · left; exact Prod.ext (by omega) q
  · right; exact Prod.ext (show e.1 = GlaLead.other S d.2 d.1 by omega) q
  · right; exact Prod.ext (show e.1 = GlaLead.other S d.2 d.1 by omega) q
  · left; exact Prod.ext (by omega) q
theorem VD.nx {d e : Dart} (h : VD S d) (k : nxt s S d = some e) : VD S e ∧ e.2 ≠ d.2 ∧ e.1 = GlaLead.other S d.2 d.1 ∧ nxt s S (rev S e) = some (rev S d) := by
  unfold nxt at k
  obtain ⟨j, hj, rfl⟩ := Option.map_eq_some_iff.mp k
  obtain ⟨q1, q2, q3, q4⟩ := onward_sym hj
  obtain ⟨m1, m2, m3⟩ := leadsAt_mem q4
  have v : VD S (GlaLead.other S d.2 d.1, j) := ⟨m1, m3⟩
  refine ⟨v, fun z => q2 z.symm, rfl, ?_⟩
  have rr := v.rr O
  have e1 : GlaLead.other S j (GlaLead.other S j (GlaLead.other S d.2 d.1)) = GlaLead.other S d.2 d.1 := (Prod.mk.inj rr).1
  unfold nxt rev
  dsimp only
  rw [e1, q1]
  rfl
theorem nxt_inj {d d' e : Dart} (h : VD S d) (h' : VD S d') (k : nxt s S d = some e) (k' : nxt s S d' = some e) : d = d' := by
  have a := (h.nx O k).2.2.2
  have b := (h'.nx O k').2.2.2
  rw [a] at b
  have := Option.some.inj b
  rw [← h.rr O, ← h'.rr O, this]
theorem itn_VD {d e : Dart} (h : VD S d) : ∀ {k : Nat}, itn s S k d = some e → VD S e := by
  intro k
  induction k generalizing e with
  | zero =>
    intro q
    have := Option.some.inj q
    rw [← this]
    exact h
  | succ k ih =>
    intro q
    obtain ⟨f, h1, h2⟩ := Option.bind_eq_some_iff.mp q
    exact ((ih h1).nx O h2).1
/-- a way backwards -/
theorem itn_rev {k : Nat} : ∀ {d e : Dart}, VD S d → itn s S k d = some e → itn s S k (rev S e) = some (rev S d) := by
  induction k with
  | zero =>
    intro d e _ q
    have := Option.some.inj q
    rw [this]
    rfl
  | succ k ih =>
    intro d e h q
    obtain ⟨f, h1, h2⟩ := Option.bind_eq_some_iff.mp q
    have vf := itn_VD O h h1
    rw [itn_succ', (vf.nx O h2).2.2.2]
    exact ih h h1
/-- no way turns back -/
theorem no_turn : ∀ (k : Nat) {d : Dart}, VD S d → itn s S k d ≠ some (rev S d)
  | 0, d, h, q => h.ne O (Option.some.inj q).symm
  | 1, d, h, q => (h.nx O (show nxt s S d = some (rev S d) from q)).2.1 rfl
  | k + 2, d, h, q => by
    obtain ⟨f, h1, h2⟩ := Option.bind_eq_some_iff.mp (show (itn s S (k + 1) d).bind (nxt s S) = _ from q)
    rw [itn_succ'] at h1
    obtain ⟨g, g1, g2⟩ := Option.bind_eq_some_iff.mp h1
    have vg := (h.nx O g1).1
    have vf := itn_VD O vg g2
    have b := (vf.nx O h2).2.2.2
    rw [h.rr O, g1] at b
    have b := Option.some.inj b
    refine no_turn k vg ?_
    rw [g2, b, vf.rr O]
theorem same_lead {k : Nat} {d e : Dart} (h : VD S d) (q : itn s S k d = some e) (l : e.2 = d.2) : e = d := by
  rcases h.same O (itn_VD O h q) l with z | z
  · exact z
  · rw [z] at q
    exact absurd q (no_turn O k h)
/-- back to the start -/
theorem itn_back {a b : Nat} {d x : Dart} (h : VD S d) (ha : itn s S a d = some x) (hb : itn s S (a + b) d = some x) : itn s S b d = some d := by
  induction a generalizing x with
  | zero =>
    have := Option.some.inj ha
    rw [this]
    rw [this, Nat.zero_add] at hb
    exact hb
  | succ a ih =>
    obtain ⟨f, f1, f2⟩ := Option.bind_eq_some_iff.mp (show (itn s S a d).bind (nxt s S) = _ from ha)
    rw [show a + 1 + b = (a + b) + 1 by omega] at hb
    obtain ⟨g, g1, g2⟩ := Option.bind_eq_some_iff.mp (show (itn s S (a + b) d).bind (nxt s S) = _ from hb)
    have := nxt_inj O (itn_VD O h f1) (itn_VD O h g1) f2 g2
    rw [← this] at g1
    exact ih f1 g1
theorem leads_distinct {d : Dart} (h : VD S d) {m : Nat} (on : ∀ k, k < m → ∃ e, itn s S k d = some e) (new : ∀ k, 0 < k → k < m → itn s S k d ≠ some d) : ((List.range m).map fun k => (dk s S d k).2).Nodup := by
  rw [List.nodup_iff_pairwise_ne, List.pairwise_map]
  refine List.Pairwise.imp_of_mem (R := fun a b => a < b) ?_ List.pairwise_lt_range
  intro a b ha hb lt z
  have hb := List.mem_range.mp hb
  obtain ⟨x, hx⟩ := on a (by omega)
  obtain ⟨y, hy⟩ := on b hb
  rw [dk_some hx, dk_some hy] at z
  have hy2 := hy
  rw [show b = a + (b - a) by omega, itn_add, hx] at hy2
  have hy2 : itn s S (b - a) x = some y := hy2
  have e := same_lead O (itn_VD O h hx) hy2 z.symm
  subst e
  exact new (b - a) (by omega) (by omega) (itn_back O h hx (by rw [show a + (b - a) = b by omega]; exact hy))
theorem run_len {d : Dart} (h : VD S d) {m : Nat} (on : ∀ k, k < m → ∃ e, itn s S k d = some e) (new : ∀ k, 0 < k → k < m → itn s S k d ≠ some d) : m ≤ S.lines.length := by
  have := nodup_len (leads_distinct O h on new) (w := List.range S.lines.length) fun a ha => by
    obtain ⟨k, hk, rfl⟩ := List.mem_map.mp ha
    obtain ⟨e, he⟩ := on k (List.mem_range.mp hk)
    rw [dk_some he]
    exact List.mem_range.mpr (leads_lt (itn_VD O h he).l)
  rwa [List.length_map, List.length_range, List.length_range] at this
theorem follow_eq {d0 : Dart} (h : VD S d0) : ∀ (n k : Nat) (d : Dart), itn s S k d0 = some d → (∀ j, j ≤ k → ∃ e, itn s S j d0 = some e) → (∀ j, 0 < j → j ≤ k → itn s S j d0 ≠ some d0) → k + n = S.lines.length + 1 →
    ∃ m, k < m ∧ GlaLead.follow s S d0 n d.1 d.2 = (List.range' k (m - k)).map (dk s S d0) ∧ (∀ j, j < m → ∃ e, itn s S j d0 = some e) ∧ (∀ j, 0 < j → j < m → itn s S j d0 ≠ some d0) ∧ (itn s S m d0 = none ∨ itn s S m d0 = some d0) := by
  intro n
  induction n with
  | zero =>
    intro k d hk on new e
    have := run_len O h (m := k + 1) (fun j hj => on j (by omega)) (fun j h0 hj => new j h0 (by omega))
    omega
  | succ n ih =>
    intro k d hk on new e
    have st : itn s S (k + 1) d0 = nxt s S d := by
      show (itn s S k d0).bind _ = _
      rw [hk]
      rfl
    have fe : GlaLead.follow s S d0 (n + 1) d.1 d.2 = (d.1, d.2) :: (match GlaLead.onward s S (GlaLead.other S d.2 d.1) d.2 with
      | none => []
      | some j => if (GlaLead.other S d.2 d.1, j) = d0 then [] else GlaLead.follow s S d0 n (GlaLead.other S d.2 d.1) j) := rfl
    have one : (List.range' k (k + 1 - k)).map (dk s S d0) = [(d.1, d.2)] := by
      rw [show k + 1 - k = 1 by omega]
      show [dk s S d0 k] = _
      rw [dk_some hk]
    rw [fe]
    cases c : GlaLead.onward s S (GlaLead.other S d.2 d.1) d.2 with
    | none =>
      have nn : nxt s S d = none := by
        unfold nxt
        rw [c]
        rfl
      refine ⟨k + 1, by omega, one.symm, fun j hj => on j (by omega), fun j h0 hj => new j h0 (by omega), .inl (by rw [st, nn])⟩
    | some j =>
      have nn : nxt s S d = some (GlaLead.other S d.2 d.1, j) := by
        unfold nxt
        rw [c]
        rfl
      dsimp only
      by_cases c2 : (GlaLead.other S d.2 d.1, j) = d0
      · rw [if_pos c2]
        refine ⟨k + 1, by omega, one.symm, fun j hj => on j (by omega), fun j h0 hj => new j h0 (by omega), .inr (by rw [st, nn, c2])⟩
      · rw [if_neg c2]
        have hk1 : itn s S (k + 1) d0 = some (GlaLead.other S d.2 d.1, j) := by rw [st, nn]
        obtain ⟨m, m1, m2, m3, m4, m5⟩ := ih (k + 1) _ hk1 (fun i hi => by
            by_cases z : i = k + 1
            · rw [z]
              exact ⟨_, hk1⟩
            · exact on i (by omega)) (fun i h0 hi => by
            by_cases z : i = k + 1
            · rw [z, hk1]
              exact fun w => c2 (Option.some.inj w)
            · exact new i h0 (by omega)) (by omega)
        refine ⟨m, by omega, ?_, m3, m4, m5⟩
        have m2 : GlaLead.follow s S d0 n (GlaLead.other S d.2 d.1) j = _ := m2
        rw [m2, show m - k = (m - (k + 1)) + 1 by omega, List.range'_succ, List.map_cons, dk_some hk]
/-- **the specification's way** -/
theorem way_run {d : Dart} (h : VD S d) : ∃ m, m ≤ S.lines.length ∧ Run s S d m ∧ GlaLead.wayFrom s S d.1 d.2 = (List.range m).map (dk s S d) := by
  obtain ⟨m, m1, m2, m3, m4, m5⟩ := follow_eq (s := s) O h (S.lines.length + 1) 0 d rfl (fun j hj => ⟨d, by rw [show j = 0 by omega]; rfl⟩) (fun j h0 hj => by omega) (by omega)
  refine ⟨m, run_len O h m3 m4, ⟨h, m1, fun k hk => ?_, m4, m5⟩, ?_⟩
  · obtain ⟨e, he⟩ := m3 k hk
    rw [he, dk_some he]
  · rw [List.range_eq_range']
    exact m2
omit O in
theorem run_uniq {d : Dart} {m m' : Nat} (R : Run s S d m) (R' : Run s S d m') : m = m' := by
  have key : ∀ {a b : Nat}, Run s S d a → Run s S d b → ¬ a < b := by
    intro a b A B lt
    rcases A.stop with q | q
    · rw [B.on a lt] at q
      cases q
    · exact B.new a A.pos lt q
  have := key R R'
  have := key R' R
  omega
end
end Lead
namespace Lead
open GlaPlan
section
variable {α : Type} {before : α → α → Bool} {M : α → Prop}
theorem putIn_weak (O : Ord before M) {x : α} (hx : M x) : ∀ l : List α, (∀ y ∈ l, M y) → l.Pairwise (fun a b => before b a = false) → (putIn before x l).Pairwise (fun a b => before b a = false)
  | [], _, _ => by simp [putIn]
  | y :: r, hm, hp => by
    obtain ⟨p1, p2⟩ := List.pairwise_cons.mp hp
    have hy := hm y (by simp)
    unfold putIn
    by_cases c : before x y = true
    · rw [if_pos c, List.pairwise_cons]
      refine ⟨fun z hz => ?_, hp⟩
      rcases List.mem_cons.mp hz with rfl | hz
      · exact O.asy hx hy c
      · cases w : before z x with
        | false => rfl
        | true =>
          have := O.tr z x y (hm z (by simp [hz])) hx hy w c
          rw [p1 z hz] at this
          cases this
    · rw [if_neg c, List.pairwise_cons]
      refine ⟨fun z hz => ?_, putIn_weak O hx r (fun z hz => hm z (by simp [hz])) p2⟩
      rcases List.mem_cons.mp ((putIn_perm x r).mem_iff.mp hz) with rfl | hz
      · simpa using c
      · exact p1 z hz
theorem inOrder_weak (O : Ord before M) : ∀ l : List α, (∀ y ∈ l, M y) → (inOrder before l).Pairwise (fun a b => before b a = false)
  | [], _ => List.Pairwise.nil
  | x :: l, hm => putIn_weak O (hm x (by simp)) (inOrder before l) (fun y hy => hm y (by simp [(inOrder_perm (before := before) l).mem_iff.mp hy])) (inOrder_weak O l (fun y hy => hm y (by simp [hy])))
theorem inOrder_head (O : Ord before M) {l : List α} (hm : ∀ y ∈ l, M y) {e : α} {r : List α} (h : inOrder before l = e :: r) : e ∈ l ∧ ∀ y ∈ l, before y e = false := by
  have pm := inOrder_perm (before := before) l
  have w := inOrder_weak O l hm
  rw [h] at pm w
  have el : e ∈ l := pm.mem_iff.mp (by simp)
  refine ⟨el, fun y hy => ?_⟩
  rcases List.mem_cons.mp (pm.mem_iff.mpr hy) with rfl | q
  · exact O.irr _ (hm _ el)
  · exact (List.pairwise_cons.mp w).1 y q
theorem inOrder_nil {l : List α} : inOrder before l = [] ↔ l = [] := by
  have pm := inOrder_perm (before := before) l
  constructor
  · intro h
    rw [h] at pm
    exact pm.symm.eq_nil
  · intro h
    rw [h]
    rfl
end
/-- the least of a set of darts is one -/
theorem line_min {a b : Nat × Nat} (h1 : lineBelow a b = false) (h2 : lineBelow b a = false) : a = b := by
  false_or_by_contra
  rename_i q
  rcases line_tot q with w | w
  · rw [h1] at w
    cases w
  · rw [h2] at w
    cases w
abbrev way (s : GlaLead.LeadShop) (S : Plan) (d : Dart) : List Dart := GlaLead.wayFrom s S d.1 d.2
def Rch (s : GlaLead.LeadShop) (S : Plan) (d e : Dart) : Prop := ∃ k, itn s S k d = some e
def Rel (s : GlaLead.LeadShop) (S : Plan) (i x : Nat) : Prop := ∃ d e, VD S d ∧ d.2 = i ∧ VD S e ∧ e.2 = x ∧ Rch s S d e
def d0 (S : Plan) (i : Nat) : Dart := ((GlaLead.lineOf S i).1, i)
def bothOf (s : GlaLead.LeadShop) (S : Plan) (i : Nat) : List Nat := (way s S ((GlaLead.lineOf S i).1, i)).map (fun x => x.2) ++ (way s S ((GlaLead.lineOf S i).2, i)).map fun x => x.2
def endsIn (s : GlaLead.LeadShop) (S : Plan) (i : Nat) : List Dart := (GlaLead.ends s S).filter fun e => (bothOf s S i).contains e.2
section
variable {s : GlaLead.LeadShop} {S : Plan}
theorem VD.d0 {i : Nat} (h : i ∈ GlaLead.leads S) : VD S (d0 S i) := ⟨h, .inl rfl⟩
theorem itn_none {k m : Nat} {d : Dart} (h : itn s S m d = none) (hk : m ≤ k) : itn s S k d = none := by
  rw [show k = m + (k - m) by omega, itn_add, h]
  rfl
theorem stripOf_eq (i : Nat) : GlaLead.stripOf s S i = match inOrder lineBelow (endsIn s S i) with
    | e :: _ => way s S e
    | [] => match inOrder lineBelow (way s S (d0 S i) ++ (way s S (d0 S i)).map fun x => (GlaLead.other S x.2 x.1, x.2)) with
      | e :: _ => way s S e
      | [] => [] := rfl
variable (O : Pre10 S)
include O
theorem rev_d0 {i : Nat} (h : i ∈ GlaLead.leads S) : rev S (d0 S i) = ((GlaLead.lineOf S i).2, i) := by
  rcases (VD.d0 h).oth O with q | q
  · exact Prod.ext q.2 rfl
  · have := (VD.d0 h).two O
    have q1 : (GlaLead.lineOf S i).1 = (GlaLead.lineOf S i).2 := q.1
    have : (GlaLead.lineOf S i).1 < (GlaLead.lineOf S i).2 := this
    omega
theorem mem_way {d e : Dart} (h : VD S d) : e ∈ way s S d ↔ Rch s S d e := by
  obtain ⟨m, _, R, hw⟩ := way_run (s := s) O h
  show e ∈ GlaLead.wayFrom s S d.1 d.2 ↔ _
  rw [hw]
  constructor
  · intro q
    obtain ⟨k, hk, rfl⟩ := List.mem_map.mp q
    exact ⟨k, R.on k (List.mem_range.mp hk)⟩
  · rintro ⟨k, hk⟩
    induction k using Nat.strongRecOn with
    | _ k ih =>
      by_cases c : k < m
      · exact List.mem_map.mpr ⟨k, List.mem_range.mpr c, dk_some hk⟩
      · rcases R.stop with q | q
        · rw [itn_none q (by omega)] at hk
          cases hk
        · refine ih (k - m) (by have := R.pos; omega) ?_
          rw [show k = m + (k - m) by omega, itn_add, q] at hk
          exact hk
theorem Rch.vd {d e : Dart} (h : VD S d) (r : Rch s S d e) : VD S e := let ⟨_, q⟩ := r; itn_VD O h q
omit O in
theorem Rch.tr {d e f : Dart} (r : Rch s S d e) (q : Rch s S e f) : Rch s S d f := by
  obtain ⟨a, ha⟩ := r
  obtain ⟨b, hb⟩ := q
  exact ⟨a + b, by rw [itn_add, ha]; exact hb⟩
theorem Rch.back {d e : Dart} (h : VD S d) (r : Rch s S d e) : Rch s S (rev S e) (rev S d) := let ⟨k, q⟩ := r; ⟨k, itn_rev O h q⟩
/-- of two darts reached, one reaches the other -/
theorem Rch.cmp {d e f : Dart} (r : Rch s S d e) (q : Rch s S d f) : Rch s S e f ∨ Rch s S f e := by
  obtain ⟨a, ha⟩ := r
  obtain ⟨b, hb⟩ := q
  by_cases c : a ≤ b
  · left
    rw [show b = a + (b - a) by omega, itn_add, ha] at hb
    exact ⟨b - a, hb⟩
  · right
    rw [show a = b + (a - b) by omega, itn_add, hb] at ha
    exact ⟨a - b, ha⟩
theorem Rel.sy {i x : Nat} (h : Rel s S i x) : Rel s S x i := by
  obtain ⟨d, e, v1, rfl, v2, rfl, r⟩ := h
  exact ⟨rev S e, rev S d, v2.rv O, rfl, v1.rv O, rfl, r.back O v1⟩
theorem Rel.tr {i x y : Nat} (h : Rel s S i x) (k : Rel s S x y) : Rel s S i y := by
  obtain ⟨d, e, v1, rfl, v2, rfl, r⟩ := h
  obtain ⟨e', g, v3, q, v4, rfl, r'⟩ := k
  rcases v2.same O v3 q with z | z
  · subst z
    exact ⟨d, g, v1, rfl, v4, rfl, r.tr r'⟩
  · subst z
    rcases Rch.cmp O (r.back O v1) r' with w | w
    · exact ⟨rev S d, g, v1.rv O, rfl, v4, rfl, w⟩
    · have := w.back O v4
      rw [v1.rr O] at this
      exact ⟨d, rev S g, v1, rfl, v4.rv O, rfl, this⟩
theorem both_mem {i x : Nat} (h : i ∈ GlaLead.leads S) : x ∈ bothOf s S i ↔ Rel s S i x := by
  have v := VD.d0 h
  have rd := rev_d0 O h
  unfold bothOf
  rw [← rd, List.mem_append, List.mem_map, List.mem_map]
  constructor
  · rintro (⟨e, he, rfl⟩ | ⟨e, he, rfl⟩)
    · have he : e ∈ way s S (d0 S i) := he
      rw [mem_way O v] at he
      exact ⟨d0 S i, e, v, rfl, he.vd O v, rfl, he⟩
    · rw [mem_way O (v.rv O)] at he
      exact ⟨rev S (d0 S i), e, v.rv O, rfl, he.vd O (v.rv O), rfl, he⟩
  · rintro ⟨d, e, v1, q, v2, rfl, r⟩
    rcases v.same O v1 q with z | z
    · subst z
      exact .inl ⟨e, (mem_way O v).mpr r, rfl⟩
    · subst z
      exact .inr ⟨e, (mem_way O (v.rv O)).mpr r, rfl⟩
theorem Rel.lead {i x : Nat} (h : Rel s S i x) : x ∈ GlaLead.leads S := by
  obtain ⟨d, e, v1, rfl, v2, rfl, r⟩ := h
  exact v2.l
theorem Rel.rf {i : Nat} (h : i ∈ GlaLead.leads S) : Rel s S i i := ⟨d0 S i, d0 S i, VD.d0 h, rfl, VD.d0 h, rfl, 0, rfl⟩
theorem onward_rev {e : Dart} (h : VD S e) : GlaLead.onward s S e.1 e.2 = none ↔ nxt s S (rev S e) = none := by
  have rr : GlaLead.other S e.2 (GlaLead.other S e.2 e.1) = e.1 := (Prod.mk.inj (h.rr O)).1
  unfold nxt rev
  dsimp only
  rw [rr, Option.map_eq_none_iff]
theorem endsIn_mem {i : Nat} {e : Dart} (h : i ∈ GlaLead.leads S) : e ∈ endsIn s S i ↔ VD S e ∧ nxt s S (rev S e) = none ∧ Rel s S i e.2 := by
  unfold endsIn
  rw [List.mem_filter, List.contains_iff_mem, both_mem O h]
  have key : e ∈ GlaLead.ends s S ↔ VD S e ∧ GlaLead.onward s S e.1 e.2 = none := by
    unfold GlaLead.ends
    rw [List.mem_flatMap]
    constructor
    · rintro ⟨j, hj, q⟩
      rw [List.mem_filterMap] at q
      obtain ⟨v, hv, q⟩ := q
      by_cases c : (GlaLead.onward s S v j).isNone = true
      · rw [if_pos c] at q
        have q := Option.some.inj q
        subst q
        refine ⟨⟨hj, ?_⟩, by simpa using c⟩
        simp only [List.mem_cons, List.not_mem_nil, or_false] at hv
        rcases hv with q | q
        · exact .inl q.symm
        · exact .inr q.symm
      · rw [if_neg c] at q
        cases q
    · rintro ⟨v, q⟩
      refine ⟨e.2, v.l, List.mem_filterMap.mpr ⟨e.1, ?_, by rw [q]; rfl⟩⟩
      rcases v.e with z | z <;> simp [z]
  rw [key]
  constructor
  · rintro ⟨⟨v, q⟩, r⟩
    exact ⟨v, (onward_rev O v).mp q, r⟩
  · rintro ⟨v, q, r⟩
    exact ⟨⟨v, (onward_rev O v).mpr q⟩, r⟩
/-! ### rings -/
theorem ring_pre {d x y : Dart} {m : Nat} (v : VD S d) (hm : 0 < m) (ring : itn s S m d = some d) (r : Rch s S d x) (vy : VD S y) (h : nxt s S y = some x) : Rch s S d y := by
  obtain ⟨j, hj⟩ := r
  have step : ∀ k, itn s S (k + 1) d = some x → Rch s S d y := by
    intro k hk
    obtain ⟨f, f1, f2⟩ := Option.bind_eq_some_iff.mp (show (itn s S k d).bind (nxt s S) = _ from hk)
    have := nxt_inj O (itn_VD O v f1) vy f2 h
    rw [← this]
    exact ⟨k, f1⟩
  cases j with
  | succ j => exact step j hj
  | zero =>
    have : d = x := Option.some.inj hj
    subst this
    obtain ⟨k, rfl⟩ : ∃ k, m = k + 1 := ⟨m - 1, by omega⟩
    exact step k ring
theorem ring_all {d e : Dart} {m : Nat} (v : VD S d) (hm : 0 < m) (ring : itn s S m d = some d) (ve : VD S e) (r : Rch s S e d) : Rch s S d e := by
  obtain ⟨k, hk⟩ := r
  induction k generalizing e with
  | zero =>
    have : e = d := Option.some.inj hk
    rw [this]
    exact ⟨0, rfl⟩
  | succ k ih =>
    rw [itn_succ'] at hk
    obtain ⟨f, f1, f2⟩ := Option.bind_eq_some_iff.mp hk
    exact ring_pre O v hm ring (ih (ve.nx O f1).1 f2) ve f1
/-- in a ring each lead of the strip is on the way -/
theorem ring_rel {d : Dart} {m x : Nat} (v : VD S d) (hm : 0 < m) (ring : itn s S m d = some d) (r : Rel s S d.2 x) : ∃ f, VD S f ∧ f.2 = x ∧ Rch s S d f := by
  obtain ⟨a, f, v1, q, v2, rfl, r⟩ := r
  rcases v.same O v1 q with z | z
  · subst z
    exact ⟨f, v2, rfl, r⟩
  · subst z
    have := r.back O (v.rv O)
    rw [v.rr O] at this
    exact ⟨rev S f, v2.rv O, rfl, ring_all O v hm ring (v2.rv O) this⟩
theorem ring_next {d f : Dart} {m : Nat} (v : VD S d) (hm : 0 < m) (ring : itn s S m d = some d) (r : Rch s S d f) : (∃ g, nxt s S f = some g) ∧ ∃ g, nxt s S (rev S f) = some g := by
  obtain ⟨j, hj⟩ := r
  have all : ∀ k, ∃ e, itn s S k d = some e := by
    intro k
    induction k using Nat.strongRecOn with
    | _ k ih =>
      by_cases c : k < m
      · cases q : itn s S k d with
        | some e => exact ⟨e, rfl⟩
        | none =>
          rw [itn_none q (by omega)] at ring
          cases ring
      · obtain ⟨e, he⟩ := ih (k - m) (by omega)
        exact ⟨e, by rw [show k = m + (k - m) by omega, itn_add, ring]; exact he⟩
  constructor
  · obtain ⟨e, he⟩ := all (j + 1)
    refine ⟨e, ?_⟩
    have : (itn s S j d).bind (nxt s S) = some e := he
    rw [hj] at this
    exact this
  · have step : ∀ k, itn s S (k + 1) d = some f → ∃ g, nxt s S (rev S f) = some g := by
      intro k hk
      obtain ⟨g, g1, g2⟩ := Option.bind_eq_some_iff.mp (show (itn s S k d).bind (nxt s S) = _ from hk)
      exact ⟨rev S g, ((itn_VD O v g1).nx O g2).2.2.2⟩
    cases j with
    | succ j => exact step j hj
    | zero =>
      have : d = f := Option.some.inj hj
      subst this
      obtain ⟨k, rfl⟩ : ∃ k, m = k + 1 := ⟨m - 1, by omega⟩
      exact step k ring
theorem ring_ends {i m : Nat} (h : i ∈ GlaLead.leads S) (hm : 0 < m) (ring : itn s S m (d0 S i) = some (d0 S i)) : endsIn s S i = [] := by
  rw [List.eq_nil_iff_forall_not_mem]
  intro e he
  obtain ⟨v, q, r⟩ := (endsIn_mem O h).mp he
  have vd := VD.d0 h
  obtain ⟨f, vf, fe, rf⟩ := ring_rel O vd hm ring r
  obtain ⟨⟨g1, n1⟩, ⟨g2, n2⟩⟩ := ring_next O vd hm ring rf
  rcases v.same O vf fe with z | z
  · rw [z] at n2
    rw [n2] at q
    cases q
  · rw [← z] at q
    rw [n1] at q
    cases q
/-- the two ends of a strip that is no ring -/
theorem line_ends {i : Nat} (h : i ∈ GlaLead.leads S) {m : Nat} (R : Run s S (d0 S i) m) (st : itn s S m (d0 S i) = none) :
    ∃ m', Run s S (rev S (d0 S i)) m' ∧ itn s S m' (rev S (d0 S i)) = none ∧ ∀ e, e ∈ endsIn s S i ↔ e = rev S (dk s S (d0 S i) (m - 1)) ∨ e = rev S (dk s S (rev S (d0 S i)) (m' - 1)) := by
  have v := VD.d0 h
  obtain ⟨m', _, R', _⟩ := way_run (s := s) O (v.rv O)
  have st' : itn s S m' (rev S (d0 S i)) = none := by
    rcases R'.stop with q | q
    · exact q
    · have := itn_rev O (v.rv O) q
      rw [v.rr O] at this
      by_cases c : m' < m
      · exact absurd this (R.new m' R'.pos c)
      · rw [itn_none st (by omega)] at this
        cases this
  have last : ∀ {d : Dart} {m : Nat}, Run s S d m → itn s S m d = none → VD S (dk s S d (m - 1)) ∧ Rch s S d (dk s S d (m - 1)) ∧ nxt s S (dk s S d (m - 1)) = none := by
    intro d m R st
    have p := R.pos
    have h1 := R.on (m - 1) (by omega)
    refine ⟨itn_VD O R.v h1, ⟨m - 1, h1⟩, ?_⟩
    have : (itn s S (m - 1) d).bind (nxt s S) = none := by
      have q : itn s S (m - 1 + 1) d = none := by rw [show m - 1 + 1 = m by omega]; exact st
      exact q
    rw [h1] at this
    exact this
  -- a dart of the way whose next is none is the last; one whose back is none is the first
  have lastU : ∀ {d f : Dart} {m : Nat}, Run s S d m → itn s S m d = none → Rch s S d f → nxt s S f = none → f = dk s S d (m - 1) := by
    rintro d f m R st ⟨k, hk⟩ hn
    have p := R.pos
    have : itn s S (k + 1) d = none := by
      show (itn s S k d).bind _ = none
      rw [hk]
      exact hn
    have c1 : k < m := by
      false_or_by_contra
      rw [itn_none st (by omega)] at hk
      cases hk
    have c2 : ¬ k + 1 < m := fun c => by
      rw [R.on (k + 1) c] at this
      cases this
    rw [show m - 1 = k by omega]
    exact (dk_some hk).symm
  have firstU : ∀ {d f : Dart}, VD S d → Rch s S d f → nxt s S (rev S f) = none → f = d := by
    rintro d f vd ⟨k, hk⟩ hn
    cases k with
    | zero => exact (Option.some.inj hk).symm
    | succ k =>
      obtain ⟨g, g1, g2⟩ := Option.bind_eq_some_iff.mp (show (itn s S k d).bind (nxt s S) = _ from hk)
      rw [((itn_VD O vd g1).nx O g2).2.2.2] at hn
      cases hn
  obtain ⟨a1, a2, a3⟩ := last R st
  obtain ⟨b1, b2, b3⟩ := last R' st'
  refine ⟨m', R', st', fun e => ?_⟩
  rw [endsIn_mem O h]
  constructor
  · rintro ⟨ve, q, d, f, v1, e1, v2, e2, r⟩
    rcases v.same O v1 e1 with z | z
    · subst z
      rcases v2.same O ve e2.symm with w | w
      · -- e = f
        rw [w] at q
        have := firstU v r q
        rw [this] at w q
        -- nothing behind the start backwards
        right
        have := lastU R' st' ⟨0, rfl⟩ q
        rw [← this, v.rr O]
        exact w
      · left
        rw [w, v2.rr O] at q
        rw [w, lastU R st r q]
    · subst z
      rcases v2.same O ve e2.symm with w | w
      · rw [w] at q
        have := firstU (v.rv O) r q
        rw [this, v.rr O] at q
        left
        have z := lastU R st ⟨0, rfl⟩ q
        rw [← z]
        rw [w, this]
      · right
        rw [w, v2.rr O] at q
        rw [w, lastU R' st' r q]
  · rintro (rfl | rfl)
    · exact ⟨a1.rv O, by rw [a1.rr O]; exact a3, d0 S i, _, v, rfl, a1, rfl, a2⟩
    · exact ⟨b1.rv O, by rw [b1.rr O]; exact b3, rev S (d0 S i), _, v.rv O, rfl, b1, rfl, b2⟩
end
end Lead
namespace Lead
open GlaPlan
section
variable {s : GlaLead.LeadShop} {S : Plan} (O : Pre10 S)
include O
omit O in
theorem ordH {l : List Dart} {e : Dart} {r : List Dart} (h : inOrder lineBelow l = e :: r) : e ∈ l ∧ ∀ y ∈ l, lineBelow y e = false := inOrder_head line_ord (fun _ _ => trivial) h
/-- the strip of a lead in a line -/
theorem strip_line {i : Nat} {E1 E2 : Dart} (he : ∀ e, e ∈ endsIn s S i ↔ e = E1 ∨ e = E2) : GlaLead.stripOf s S i = way s S (if lineBelow E2 E1 = true then E2 else E1) := by
  rw [stripOf_eq]
  cases q : inOrder lineBelow (endsIn s S i) with
  | nil =>
    rw [inOrder_nil] at q
    have := (he E1).mpr (.inl rfl)
    rw [q] at this
    cases this
  | cons e r =>
    obtain ⟨h1, h2⟩ := ordH q
    have g1 := h2 E1 ((he E1).mpr (.inl rfl))
    have g2 := h2 E2 ((he E2).mpr (.inr rfl))
    dsimp only
    congr 1
    rcases (he e).mp h1 with rfl | rfl
    · rw [if_neg (by rw [g2]; decide)]
    · by_cases c : lineBelow e E1 = true
      · rw [if_pos c]
      · rw [if_neg c]
        exact (line_min g1 (by simpa using c)).symm
/-- the darts of a ring, both ways -/
theorem ring_mem {i : Nat} (h : i ∈ GlaLead.leads S) {m : Nat} (hm : 0 < m) (ring : itn s S m (d0 S i) = some (d0 S i)) (e : Dart) : e ∈ (way s S (d0 S i) ++ (way s S (d0 S i)).map fun x => (GlaLead.other S x.2 x.1, x.2)) ↔ VD S e ∧ Rel s S i e.2 := by
  have v := VD.d0 h
  rw [List.mem_append, List.mem_map]
  constructor
  · rintro (q | ⟨f, q, rfl⟩)
    · have r := (mem_way O v).mp q
      exact ⟨r.vd O v, d0 S i, e, v, rfl, r.vd O v, rfl, r⟩
    · have r := (mem_way O v).mp q
      have vf := r.vd O v
      exact ⟨vf.rv O, d0 S i, f, v, rfl, vf, rfl, r⟩
  · rintro ⟨ve, r⟩
    obtain ⟨f, vf, fe, rf⟩ := ring_rel O v hm ring r
    rcases vf.same O ve fe.symm with z | z
    · left
      rw [z]
      exact (mem_way O v).mpr rf
    · right
      exact ⟨f, (mem_way O v).mpr rf, z.symm⟩
theorem strip_ring {i : Nat} (h : i ∈ GlaLead.leads S) {m : Nat} (hm : 0 < m) (ring : itn s S m (d0 S i) = some (d0 S i)) {e : Dart} (ve : VD S e) (re : Rel s S i e.2) (mi : ∀ f, VD S f → Rel s S i f.2 → lineBelow f e = false) : GlaLead.stripOf s S i = way s S e := by
  rw [stripOf_eq, ring_ends O h hm ring]
  show (match inOrder lineBelow (way s S (d0 S i) ++ (way s S (d0 S i)).map fun x => (GlaLead.other S x.2 x.1, x.2)) with | e :: _ => way s S e | [] => []) = _
  cases q : inOrder lineBelow (way s S (d0 S i) ++ (way s S (d0 S i)).map fun x => (GlaLead.other S x.2 x.1, x.2)) with
  | nil =>
    rw [inOrder_nil] at q
    have := (ring_mem O h hm ring e).mpr ⟨ve, re⟩
    rw [q] at this
    cases this
  | cons f r =>
    obtain ⟨h1, h2⟩ := ordH q
    obtain ⟨vf, rf⟩ := (ring_mem O h hm ring f).mp h1
    dsimp only
    rw [line_min (h2 e ((ring_mem O h hm ring e).mpr ⟨ve, re⟩)) (mi f vf rf)]
/-- what a strip is: a way that has all its leads -/
theorem strip_is {i : Nat} (h : i ∈ GlaLead.leads S) : ∃ e, VD S e ∧ Rel s S i e.2 ∧ GlaLead.stripOf s S i = way s S e ∧ ((∃ m, 0 < m ∧ itn s S m e = some e) ∨ nxt s S (rev S e) = none) := by
  have v := VD.d0 h
  obtain ⟨m, _, R, _⟩ := way_run (s := s) O v
  rcases R.stop with st | st
  · obtain ⟨m', R', st', he⟩ := line_ends O h R st
    have mem : ∀ e, e ∈ endsIn s S i → VD S e ∧ Rel s S i e.2 ∧ nxt s S (rev S e) = none := fun e q => by
      obtain ⟨a, b, c⟩ := (endsIn_mem O h).mp q
      exact ⟨a, c, b⟩
    rw [strip_line O he]
    split
    · obtain ⟨a, b, c⟩ := mem _ ((he _).mpr (.inr rfl))
      exact ⟨_, a, b, rfl, .inr c⟩
    · obtain ⟨a, b, c⟩ := mem _ ((he _).mpr (.inl rfl))
      exact ⟨_, a, b, rfl, .inr c⟩
  · rw [stripOf_eq, ring_ends O h R.pos st]
    show ∃ e, VD S e ∧ Rel s S i e.2 ∧ (match inOrder lineBelow (way s S (d0 S i) ++ (way s S (d0 S i)).map fun x => (GlaLead.other S x.2 x.1, x.2)) with | e :: _ => way s S e | [] => []) = _ ∧ _
    cases q : inOrder lineBelow (way s S (d0 S i) ++ (way s S (d0 S i)).map fun x => (GlaLead.other S x.2 x.1, x.2)) with
    | nil =>
      rw [inOrder_nil] at q
      have := (ring_mem O h R.pos st (d0 S i)).mpr ⟨v, Rel.rf O h⟩
      rw [q] at this
      cases this
    | cons e r =>
      obtain ⟨h1, h2⟩ := ordH q
      obtain ⟨ve, re⟩ := (ring_mem O h R.pos st e).mp h1
      refine ⟨e, ve, re, rfl, .inl ?_⟩
      -- e is on the ring, one way or the other
      have back : ∀ f, Rch s S (d0 S i) f → ∃ n, 0 < n ∧ itn s S n f = some f := by
        rintro f ⟨k, hk⟩
        refine ⟨m, R.pos, ?_⟩
        have : itn s S (k + m) (d0 S i) = some f := by
          rw [Nat.add_comm, itn_add, st]
          exact hk
        rw [itn_add, hk] at this
        exact this
      obtain ⟨f, vf, fe, rf⟩ := ring_rel O v R.pos st re
      obtain ⟨n, n0, hn⟩ := back f rf
      refine ⟨n, n0, ?_⟩
      rcases vf.same O ve fe.symm with z | z
      · rw [z]
        exact hn
      · rw [z]
        exact itn_rev O vf hn
theorem strip_mem {i x : Nat} (h : i ∈ GlaLead.leads S) : x ∈ (GlaLead.stripOf s S i).map (fun y => y.2) ↔ Rel s S i x := by
  obtain ⟨e, ve, re, eq, w⟩ := strip_is (s := s) O h
  rw [eq, List.mem_map]
  constructor
  · rintro ⟨f, hf, rfl⟩
    have r := (mem_way O ve).mp hf
    exact re.tr O ⟨e, f, ve, rfl, r.vd O ve, rfl, r⟩
  · intro r
    have r2 : Rel s S e.2 x := (re.sy O).tr O r
    rcases w with ⟨m, hm, ring⟩ | w
    · obtain ⟨f, vf, fe, rf⟩ := ring_rel O ve hm ring r2
      exact ⟨f, (mem_way O ve).mpr rf, fe⟩
    · obtain ⟨d, f, v1, q, v2, rfl, rf⟩ := r2
      rcases ve.same O v1 q with z | z
      · subst z
        exact ⟨f, (mem_way O ve).mpr rf, rfl⟩
      · subst z
        obtain ⟨k, hk⟩ := rf
        cases k with
        | zero =>
          have : rev S e = f := Option.some.inj hk
          rw [← this]
          exact ⟨e, (mem_way O ve).mpr ⟨0, rfl⟩, rfl⟩
        | succ k =>
          rw [itn_succ', w] at hk
          cases hk
theorem strip_congr {i j : Nat} (h : i ∈ GlaLead.leads S) (r : Rel s S i j) : GlaLead.stripOf s S j = GlaLead.stripOf s S i := by
  have hj : j ∈ GlaLead.leads S := r.lead O
  have same : ∀ x, Rel s S j x ↔ Rel s S i x := fun x => ⟨fun q => r.tr O q, fun q => (r.sy O).tr O q⟩
  have en : endsIn s S j = endsIn s S i := by
    unfold endsIn
    refine List.filter_congr fun e _ => ?_
    rw [Bool.eq_iff_iff, List.contains_iff_mem, List.contains_iff_mem, both_mem O hj, both_mem O h]
    exact same _
  obtain ⟨m, _, R, _⟩ := way_run (s := s) O (VD.d0 h)
  rcases R.stop with st | st
  · obtain ⟨m', R', st', he⟩ := line_ends O h R st
    rw [strip_line O he]
    rw [← en] at he
    exact strip_line O he
  · have ei := ring_ends O h R.pos st
    obtain ⟨m2, _, R2, _⟩ := way_run (s := s) O (VD.d0 hj)
    rcases R2.stop with st2 | st2
    · obtain ⟨m', R', st', he⟩ := line_ends O hj R2 st2
      rw [en, ei] at he
      have := (he _).mpr (.inl rfl)
      cases this
    · -- the least dart of the ring
      cases q : inOrder lineBelow (way s S (d0 S i) ++ (way s S (d0 S i)).map fun x => (GlaLead.other S x.2 x.1, x.2)) with
      | nil =>
        rw [inOrder_nil] at q
        have := (ring_mem O h R.pos st (d0 S i)).mpr ⟨VD.d0 h, Rel.rf O h⟩
        rw [q] at this
        cases this
      | cons e r' =>
        obtain ⟨h1, h2⟩ := ordH q
        obtain ⟨ve, re⟩ := (ring_mem O h R.pos st e).mp h1
        have mi : ∀ f, VD S f → Rel s S i f.2 → lineBelow f e = false := fun f vf rf => h2 f ((ring_mem O h R.pos st f).mpr ⟨vf, rf⟩)
        rw [strip_ring O h R.pos st ve re mi]
        exact strip_ring O hj R2.pos st2 ve ((same _).mpr re) fun f vf rf => mi f vf ((same _).mp rf)
end
/-! ### all strips, as the program finds them -/
def sStep (s : GlaLead.LeadShop) (S : Plan) (st : List Nat × List (List Dart)) (i : Nat) : List Nat × List (List Dart) := if i ∈ st.1 then st else (st.1 ++ (GlaLead.stripOf s S i).map (fun y => y.2), st.2 ++ [GlaLead.stripOf s S i])
def isLst (s : GlaLead.LeadShop) (S : Plan) (i : Nat) : Bool := (GlaLead.stripOf s S i).all fun (x : Nat × Nat) => decide (i ≤ x.2)
theorem strips_run {s : GlaLead.LeadShop} {S : Plan} (O : Pre10 S) : ∀ (rest pre : List Nat), pre ++ rest = GlaLead.leads S → ∀ (met : List Nat), (∀ x, x ∈ met ↔ ∃ i ∈ pre, Rel s S i x) → (rest.foldl (sStep s S) (met, (pre.filter (isLst s S)).map (GlaLead.stripOf s S))).2 = ((pre ++ rest).filter (isLst s S)).map (GlaLead.stripOf s S)
  | [], pre, _, met, _ => by rw [List.append_nil]; rfl
  | i :: rest, pre, h, met, hm => by
    have il : i ∈ GlaLead.leads S := by rw [← h]; simp
    have asc := leads_asc S
    rw [← h] at asc
    obtain ⟨_, a2, a3⟩ := List.pairwise_append.mp asc
    have before : ∀ j, j ∈ GlaLead.leads S → j < i → j ∈ pre := by
      intro j hj lt
      rw [← h] at hj
      rcases List.mem_append.mp hj with q | q
      · exact q
      · rcases List.mem_cons.mp q with rfl | q
        · omega
        · have := (List.pairwise_cons.mp a2).1 j q
          omega
    have mi : ∀ x, x ∈ met ++ (GlaLead.stripOf s S i).map (fun y => y.2) ↔ ∃ j ∈ pre ++ [i], Rel s S j x := by
      intro x
      rw [List.mem_append, hm, strip_mem O il]
      constructor
      · rintro (⟨j, hj, r⟩ | r)
        · exact ⟨j, by simp [hj], r⟩
        · exact ⟨i, by simp, r⟩
      · rintro ⟨j, hj, r⟩
        rcases List.mem_append.mp hj with q | q
        · exact .inl ⟨j, q, r⟩
        · rw [List.mem_singleton.mp q] at r
          exact .inr r
    rw [List.foldl_cons, show pre ++ i :: rest = (pre ++ [i]) ++ rest by simp]
    have h' : (pre ++ [i]) ++ rest = GlaLead.leads S := by rw [← h]; simp
    by_cases c : i ∈ met
    · obtain ⟨j, hj, r⟩ := (hm i).mp c
      have lt : j < i := a3 j hj i (by simp)
      have no : isLst s S i = false := by
        rw [Bool.eq_false_iff]
        intro q
        unfold isLst at q
        rw [List.all_eq_true] at q
        obtain ⟨y, hy, e⟩ := List.mem_map.mp ((strip_mem O il).mpr (r.sy O))
        have := of_decide_eq_true (q y hy)
        omega
      have st : sStep s S (met, (pre.filter (isLst s S)).map (GlaLead.stripOf s S)) i = (met, ((pre ++ [i]).filter (isLst s S)).map (GlaLead.stripOf s S)) := by
        unfold sStep
        rw [if_pos c, List.filter_append, List.filter_cons_of_neg (by rw [no]; decide)]
        simp
      rw [st]
      refine strips_run O rest (pre ++ [i]) h' met fun x => ?_
      rw [← mi, List.mem_append]
      constructor
      · exact .inl
      · rintro (q | q)
        · exact q
        · exact (hm x).mpr ⟨j, hj, r.tr O ((strip_mem O il).mp q)⟩
    · have yes : isLst s S i = true := by
        unfold isLst
        rw [List.all_eq_true]
        intro y hy
        rw [decide_eq_true_iff]
        false_or_by_contra
        rename_i q
        have r := (strip_mem O il).mp (List.mem_map.mpr ⟨y, hy, rfl⟩)
        exact c ((hm i).mpr ⟨y.2, before _ (r.lead O) (by omega), r.sy O⟩)
      have st : sStep s S (met, (pre.filter (isLst s S)).map (GlaLead.stripOf s S)) i = (met ++ (GlaLead.stripOf s S i).map (fun y => y.2), ((pre ++ [i]).filter (isLst s S)).map (GlaLead.stripOf s S)) := by
        unfold sStep
        rw [if_neg c, List.filter_append, List.filter_cons_of_pos yes]
        simp
      rw [st]
      exact strips_run O rest (pre ++ [i]) h' _ mi
/-- **all strips** -/
theorem strips_eq {s : GlaLead.LeadShop} {S : Plan} (O : Pre10 S) : ((GlaLead.leads S).foldl (sStep s S) ([], [])).2 = GlaLead.strips s S :=
  strips_run O (GlaLead.leads S) [] rfl [] (by simp)
end Lead
/-! min of a tuple of ints -/
namespace LeadT
open PySem PyProof.Rows L2
def rMinT (K : PySem.W.Frag) : List V → Hp → VK → Prop := fun vs H Q => ∃ (a : Addr) (n : Int) (ns : List Int), vs = [V.ref a] ∧ SqT K H a ((n :: ns).map V.int) ∧ Q (.int (ns.foldl (fun a y => if y < a then y else a) n)) H
theorem cr_minT {X : Cx} (hc : X.calm = true) (hu : X.A.units + 1 < cLine) : CallR X (.builtin "min") (rMinT X.K) := by
  intro pins s σ H vs us Q I r h
  obtain ⟨a, n, ns, rfl, hs, q⟩ := h
  obtain ⟨its, rv, hl, _⟩ := I.tuple hs
  rw [Vals.ref1 r]
  have hi := intsAre_of rv
  refine PySem.W.min_tuple_datum (α := Int) (x := n) (xs := ns) (I.ok.hd hc) (vs := its.toArray) ?_ (PySem.W.HoldAll.of_ints hi) (by show X.A.units + 1 + 0 < cLine; omega) fun i v h' tk hv hH hk => ?_
  · exact hl
  · have := PySem.W.HoldAll.toInts (PySem.W.HoldAll.cons hH PySem.W.HoldAll.nil)
    cases this with
    | cons m t _ =>
      refine ⟨.int _, H, I.kept hk, ⟨t, rfl⟩, ?_⟩
      have e : PySem.W.minOf n ns = ns.foldl (fun a y => if y < a then y else a) n := by
        unfold PySem.W.minOf
        congr 1
        funext a y
        exact Lead.if_iff (by show decide (y < a) = true ↔ _; simp)
      rw [e]
      exact q
end LeadT
namespace Lead
open PySem PySem.Spec PyProof.Rows L2 Evl LeadT
open GlaPlan
theorem rows_pts {s : GlaLead.LeadShop} {S : Plan} {d : Dart} {m : Nat} (O : Pre10 S) (R : Run s S d m) : GlaLead.rowPts S ((List.range m).map (dk s S d)) = d.1 :: (List.range m).map fun j => GlaLead.other S (dk s S d j).2 (dk s S d j).1 := by
  obtain ⟨k, rfl⟩ : ∃ k, m = k + 1 := ⟨m - 1, by have := R.pos; omega⟩
  unfold GlaLead.rowPts
  rw [List.range_succ, List.map_append, List.map_append, List.map_append, List.map_singleton, List.map_singleton, List.map_singleton, List.getLast?_concat]
  dsimp only
  have h : ∀ n, n ≤ k → ((List.range n).map (dk s S d)).map (fun x => x.1) ++ [(dk s S d n).1] = d.1 :: (List.range n).map fun j => GlaLead.other S (dk s S d j).2 (dk s S d j).1 := by
    intro n
    induction n with
    | zero => intro _; rfl
    | succ n ih =>
      intro hn
      have h1 := R.on n (by omega)
      have h2 := R.on (n + 1) (by omega)
      have e : (dk s S d (n + 1)).1 = GlaLead.other S (dk s S d n).2 (dk s S d n).1 := by
        have : (itn s S n d).bind (nxt s S) = some (dk s S d (n + 1)) := h2
        rw [h1] at this
        exact ((itn_VD O R.v h1).nx O this).2.2.1
      rw [List.range_succ, List.map_append, List.map_append, List.map_append, List.map_singleton, List.map_singleton, List.map_singleton, ih (by omega), e]
      rfl
  rw [h k (Nat.le_refl _)]
  rfl
section
variable {P : Program} {w : World} {K : PySem.W.Frag} {mg : Str → Option Value} {base : Heap}
variable {H : Hp} {σ : L2.St} {td ty tx : TE}
theorem ev_dget2T {d : Addr} {kvs : List (List Key × V)} {p : Z2} {z : V} (hd : Ev td σ H (.ref d)) (hk : ∀ H1, Ex H H1 → EvU ty σ H1 (vz p)) (hx : ∀ H1, Ex H H1 → Ev tx σ H1 z) (h : H d = some (.dT kvs)) : Ev (tDGet2 td ty tx) σ H ((valV kvs [Sum.inl p.1, Sum.inl p.2]).getD z) := fun H1 e Q q =>
  hd H1 e _ fun H2 e2 => ⟨d, rfl, .inr ⟨kvs, .inl ((e.trans e2) _ _ h)⟩, hk H2 (e.trans e2) H2 (Ex.refl H2) _ fun b H3 _ e3 hb => hx H3 ((e.trans e2).trans e3) H3 (Ex.refl H3) _ fun H4 e4 => ⟨_, DGet.t (k := [Sum.inl p.1, Sum.inl p.2]) ((((e.trans e2).trans e3).trans e4) _ _ h) (e4 _ _ hb), q H4 ((e2.trans e3).trans e4)⟩⟩
/-- where a way is after k leads -/
def curP (s : GlaLead.LeadShop) (S : Plan) (d : Dart) (k : Nat) : Nat := if k = 0 then d.1 else GlaLead.other S (dk s S d (k - 1)).2 (dk s S d (k - 1)).1
def curL (s : GlaLead.LeadShop) (S : Plan) (d : Dart) (k : Nat) : Int := match itn s S k d with | some e => (e.2 : Int) | none => -1
def spTrail (K : PySem.W.Frag) (C : Addr) : Sp := fun vs H Q _ => ∃ (a j : Addr) (sz : Nat) (S : Plan) (s : GlaLead.LeadShop) (d : Dart), vs = [.ref a, .ref j, .int (d.2 : Int), .int (d.1 : Int)] ∧ Dw K C H a sz S ∧ Pre10 S ∧ JD s S H j ∧ VD S d ∧
  ∀ t p q H' m (ring : Bool), H t = none → H p = none → H q = none → Ex H H' → H' t = some (.tup [.ref p, .ref q, .bl ring]) → H' p = some (.lst (nv ((way s S d).map fun x => x.2))) → H' q = some (.lst (nv (GlaLead.rowPts S (way s S d)))) → Run s S d m → way s S d = (List.range m).map (dk s S d) → (ring = true ↔ itn s S m d = some d) → Q (.ref t) H'
theorem ok_trail (T : Txt K mg) : FnOk P w K mg base CX0 2 T.trail.f T.trail.fd ["drawing", "joins", "start", "point"] (spTrail K T.Drawing.C) := by
  refine T.trail.F.ok sc_trail (fun vs H Q E h => ?_) (fun cdv A outer s H vs Q E hr h => ?_)
  · obtain ⟨a, j, sz, S, s, d, rfl, _⟩ := h
    rfl
  · refine ⟨_, (pss_cons (ps_set (i := 4) sc_trail.nd rfl (.inl rfl) (pe_lst pa_nil))
    (pss_cons (ps_set (i := 5) sc_trail.nd rfl (.inl rfl) (pe_lst (pa_cons (pv 3) pa_nil)))
    (pss_cons (ps_set (i := 6) sc_trail.nd rfl (.inl rfl) (pv 2))
    (pss_cons (ps_while PassesOwn.never (PW.pt (pw_and (pt_cmpR op_ne (pv 6) (pe_glob (v := .int (-1)) rfl T.c_LONE.choose_spec ⟨_, rfl⟩) (nomark _)) (pw_and1 (PW.pt (pw_or (pt_cmpR (op_eqD (hu64 hr)) (pv 4) (pe_lst pa_nil) (nomark _)) (pw_or1 (pt_cmpR op_ne (pv 6) (pv 2) (nomark _)))))))) (pss_cons (ps_expr (pe_bm PySem.F.plainAttrs_list PySem.F.slot_list_append PySem.F.type_list_append mt_append (pv 4) (pa_cons (pv 6) pa_nil)))
    (pss_cons (ps_set (i := 3) sc_trail.nd rfl (.inl rfl) (pe_call (ok_other_end T) (hr.mono (by decide)) rfl T.other_end.g T.other_end.F.kp T.other_end.b .nil pass0 (pa_cons (pv 0) (pa_cons (pv 6) (pa_cons (pv 3) pa_nil)))))
    (pss_cons (ps_expr (pe_bm PySem.F.plainAttrs_list PySem.F.slot_list_append PySem.F.type_list_append mt_append (pv 5) (pa_cons (pv 3) pa_nil)))
    (pss_one (ps_set (i := 6) sc_trail.nd rfl (.inl rfl) (pe_dget2 (hu_of hr) (pv 1) (pe_tup (pa_cons (pv 3) (pa_cons (pv 6) pa_nil))) (pe_glob (v := .int (-1)) rfl T.c_LONE.choose_spec ⟨_, rfl⟩) ⟨rfl, rfl, rfl, rfl⟩)))))))
    (pss_one (ps_ret (pe_tup (pa_cons (pv 4) (pa_cons (pv 5) (pa_cons (pe_cmpR op_eq (pv 6) (pv 2) (nomark _)) pa_nil)))))))))), ?_⟩
    obtain ⟨a, j, sz, S, s, d, rfl, hD, hP, hJ, hv, k⟩ := h
    obtain ⟨m, ml, R, hw⟩ := way_run (s := s) hP hv
    have hw : way s S d = (List.range m).map (dk s S d) := hw
    obtain ⟨kvs, jd, jv⟩ := hJ
    have nl := hP.p.t.2.1
    have rp := rows_pts hP R
    have mpos := R.pos
    refine q_asgL (xs := []) (el_lst ea_nil (by show 0 ≤ 100000; decide)) fun p H1 np e1 h1 => ?_
    refine q_asgL (xs := [.int (d.1 : Int)]) (el_lst (ea_cons (ev_var rfl) ea_nil) (by show 1 ≤ 100000; decide)) fun q H2 nq e2 h2 => ?_
    refine q_asg (ev_var rfl) fun H3 e3 => ?_
    have pq : p ≠ q := ne_of_none h1 nq
    have nq := fresh_back e1 nq
    refine q_while (fun f σ' H' => ∃ n, n + f = m ∧ Ex H H' ∧ H' p = some (.lst (nv ((List.range n).map fun i => (dk s S d i).2))) ∧ H' q = some (.lst (nv (d.1 :: (List.range n).map fun i => GlaLead.other S (dk s S d i).2 (dk s S d i).1))) ∧
        σ' = [some (.ref a), some (.ref j), some (.int (d.2 : Int)), some (.int (curP s S d n : Int)), some (.ref p), some (.ref q), some (.int (curL s S d n))])
      m ⟨0, by omega, (e1.trans e2).trans e3, e3 _ _ (e2 _ _ h1), e3 _ _ h2, rfl⟩ ?_
    rintro f σ' H' ⟨n, hn, e, hp, hq, rfl⟩
    have lt0 : curL s S d n ≠ -1 ∧ (n = 0 ∨ curL s S d n ≠ (d.2 : Int)) ↔ n < m := by
      unfold curL
      constructor
      · intro h
        false_or_by_contra
        have : n = m := by omega
        subst this
        rcases R.stop with z | z
        · rw [z] at h
          exact h.1 rfl
        · rw [z] at h
          rcases h.2 with w | w
          · omega
          · exact w rfl
      · intro lt
        have h1 := R.on n lt
        rw [h1]
        dsimp only
        refine ⟨by omega, ?_⟩
        by_cases c : n = 0
        · exact .inl c
        · right
          intro z
          have := same_lead hP hv h1 (by omega)
          rw [this] at h1
          exact R.new n (by omega) lt h1
    refine ⟨_, et_and (et_test (ev_op (ev_var rfl) ev_c rv_neI)) (fun _ => et_or (et_test (ev_opL (ev_var rfl) (el_lst ea_nil (by show 0 ≤ 100000; decide)) fun b H4 hb e4 => rv_eqInts (ns := iz ((List.range n).map fun i => (dk s S d i).2)) (ms := []) (by rw [iz_nv]; exact sq_of (e4 _ _ hp)) (sq_of hb))) fun _ => et_test (ev_op (ev_var rfl) (ev_var rfl) rv_neI)), fun tb H4 e4 => ?_, fun tb H4 e4 => ?_⟩
    · have lt : n < m := by
        rw [← lt0]
        simp only [Bool.and_eq_true, Bool.or_eq_true, Bool.not_eq_true', decide_eq_true_eq, decide_eq_false_iff_not] at tb
        refine ⟨tb.1, ?_⟩
        rcases tb.2 with z | z
        · left
          have := congrArg List.length z
          simpa using this
        · exact .inr z
      have hd := R.on n lt
      have vd := itn_VD hP hv hd
      have cl : curL s S d n = ((dk s S d n).2 : Int) := by
        unfold curL
        rw [hd]
      have cp : curP s S d n = (dk s S d n).1 := by
        unfold curP
        by_cases c : n = 0
        · subst c
          rfl
        · rw [if_neg c]
          have h1 := R.on (n - 1) (by omega)
          have : (itn s S (n - 1) d).bind (nxt s S) = some (dk s S d n) := by
            have q : itn s S (n - 1 + 1) d = some (dk s S d n) := by rw [show n - 1 + 1 = n by omega]; exact hd
            exact q
          rw [h1] at this
          exact ((itn_VD hP hv h1).nx hP this).2.2.1.symm
      have cp1 : curP s S d (n + 1) = GlaLead.other S (dk s S d n).2 (dk s S d n).1 := by
        unfold curP
        rw [if_neg (by omega)]
        rfl
      rw [cl, cp]
      have il := leads_lt vd.l
      have ol := other_lt (v := (dk s S d n).1) hP.p il
      refine ⟨_, fun σ2 H5 h => ⟨f - 1, by omega, n + 1, by omega, h⟩, ?_⟩
      refine q_app (e4 _ _ hp) (ev_var rfl) (ev_var rfl) (by rw [List.length_map, List.length_map, List.length_range]; omega) fun H5 e5 => ?_
      have e05 : Ex H (upd H5 p (.lst (nv ((List.range n).map fun i => (dk s S d i).2) ++ [V.int ((dk s S d n).2 : Int)]))) := Ex.mut ((e.trans e4).trans e5) np
      have hp5 : (upd H5 p (.lst (nv ((List.range n).map fun i => (dk s S d i).2) ++ [V.int ((dk s S d n).2 : Int)]))) p = some (.lst (nv ((List.range (n + 1)).map fun i => (dk s S d i).2))) := by
        rw [upd_same, List.range_succ, List.map_append, nv, nv, List.map_append]
        rfl
      have hq5 : (upd H5 p (.lst (nv ((List.range n).map fun i => (dk s S d i).2) ++ [V.int ((dk s S d n).2 : Int)]))) q = some (.lst (nv (d.1 :: (List.range n).map fun i => GlaLead.other S (dk s S d i).2 (dk s S d i).1))) := by
        rw [upd_ne pq.symm]
        exact e5 _ _ (e4 _ _ hq)
      generalize upd H5 p (.lst (nv ((List.range n).map fun i => (dk s S d i).2) ++ [V.int ((dk s S d n).2 : Int)])) = H6 at e05 hp5 hq5
      refine q_asg (ev_call (ea_cons (ev_var rfl) (ea_cons (ev_var rfl) (ea_cons (ev_var rfl) ea_nil))) (spv_other (hD.mono e05) il)) fun H7 e7 => ?_
      refine q_app (e7 _ _ hq5) (ev_var rfl) (ev_var rfl) (by rw [List.length_map, List.length_cons, List.length_map, List.length_range]; omega) fun H8 e8 => ?_
      have e08 : Ex H (upd H8 q (.lst (nv (d.1 :: (List.range n).map fun i => GlaLead.other S (dk s S d i).2 (dk s S d i).1) ++ [V.int (GlaLead.other S (dk s S d n).2 (dk s S d n).1 : Int)]))) := Ex.mut ((e05.trans e7).trans e8) nq
      have hq8 : (upd H8 q (.lst (nv (d.1 :: (List.range n).map fun i => GlaLead.other S (dk s S d i).2 (dk s S d i).1) ++ [V.int (GlaLead.other S (dk s S d n).2 (dk s S d n).1 : Int)]))) q = some (.lst (nv (d.1 :: (List.range (n + 1)).map fun i => GlaLead.other S (dk s S d i).2 (dk s S d i).1))) := by
        rw [upd_same, List.range_succ, List.map_append, nv, nv, ← List.cons_append, List.map_append]
        rfl
      have hp8 : (upd H8 q (.lst (nv (d.1 :: (List.range n).map fun i => GlaLead.other S (dk s S d i).2 (dk s S d i).1) ++ [V.int (GlaLead.other S (dk s S d n).2 (dk s S d n).1 : Int)]))) p = some (.lst (nv ((List.range (n + 1)).map fun i => (dk s S d i).2))) := by
        rw [upd_ne pq]
        exact e8 _ _ (e7 _ _ hp5)
      generalize upd H8 q (.lst (nv (d.1 :: (List.range n).map fun i => GlaLead.other S (dk s S d i).2 (dk s S d i).1) ++ [V.int (GlaLead.other S (dk s S d n).2 (dk s S d n).1 : Int)])) = H9 at e08 hp8 hq8
      refine s_asg (v := .int (curL s S d (n + 1))) (ev_is (ev_dget2T (p := lnZ (GlaLead.other S (dk s S d n).2 (dk s S d n).1, (dk s S d n).2)) (ev_var rfl) (fun H10 e10 => eu_tup (ea_cons (ev_var rfl) (ea_cons (ev_var rfl) ea_nil)) (by show 2 ≤ 100000; decide)) (fun H10 e10 => ev_c (v := .int (-1))) (e08 _ _ jd)) ?_) fun H10 e10 => ⟨e08.trans e10, e10 _ _ hp8, e10 _ _ hq8, ?_⟩
      · have jv := jv (GlaLead.other S (dk s S d n).2 (dk s S d n).1) (dk s S d n).2 ol
        have jv : valV kvs [Sum.inl (lnZ (GlaLead.other S (dk s S d n).2 (dk s S d n).1, (dk s S d n).2)).1, Sum.inl (lnZ (GlaLead.other S (dk s S d n).2 (dk s S d n).1, (dk s S d n).2)).2] = _ := jv
        rw [jv]
        unfold curL
        have : itn s S (n + 1) d = nxt s S (dk s S d n) := by
          show (itn s S n d).bind _ = _
          rw [hd]
          rfl
        rw [this]
        unfold nxt
        cases GlaLead.onward s S (GlaLead.other S (dk s S d n).2 (dk s S d n).1) (dk s S d n).2 <;> rfl
      · rw [cp1]
        rfl
    · have nm : n = m := by
        have : ¬ n < m := by
          rw [← lt0]
          rintro ⟨z1, z2⟩
          simp only [Bool.and_eq_false_iff, Bool.or_eq_false_iff, Bool.not_eq_false', decide_eq_true_eq, decide_eq_false_iff_not] at tb
          rcases tb with q | ⟨q1, q2⟩
          · exact z1 q
          · rcases z2 with z | z
            · subst z
              exact q1 rfl
            · exact z q2
        omega
      subst nm
      refine s_retU (eu_tup (ea_cons (ev_var rfl) (ea_cons (ev_var rfl) (ea_cons (ev_op (ev_var rfl) (ev_var rfl) rv_eqI) ea_nil))) (by show 3 ≤ 100000; decide)) fun t H5 nt e5 h5 => ?_
      refine k t p q H5 n _ (fresh_back (e.trans e4) nt) np nq ((e.trans e4).trans e5) h5 (e5 _ _ (e4 _ _ ?_)) (e5 _ _ (e4 _ _ ?_)) R hw ?_
      · rw [hw, List.map_map]
        exact hp
      · rw [hw, rp]
        exact hq
      · rw [decide_eq_true_iff]
        unfold curL
        rcases R.stop with z | z
        · rw [z]
          constructor
          · intro w
            have w : (-1 : Int) = (d.2 : Int) := w
            omega
          · intro w
            cases w
        · rw [z]
          exact ⟨fun _ => rfl, fun _ => rfl⟩
end
end Lead
namespace Lead
open PySem PySem.Spec PyProof.Rows L2 Evl LeadT
open GlaPlan
/-- the least dart of some leads -/
structure LeastD (S : Plan) (L : List Nat) (e : Dart) : Prop where
  l : e.2 ∈ L
  at_ : (GlaLead.lineOf S e.2).1 = e.1 ∨ (GlaLead.lineOf S e.2).2 = e.1
  mi : ∀ f : Dart, f.2 ∈ L → ((GlaLead.lineOf S f.2).1 = f.1 ∨ (GlaLead.lineOf S f.2).2 = f.1) → lineBelow f e = false
theorem exists_min (l : List Nat) (h : l ≠ []) : ∃ m ∈ l, ∀ y ∈ l, m ≤ y := by
  induction l with
  | nil => exact absurd rfl h
  | cons a l ih =>
    by_cases c : l = []
    · subst c
      exact ⟨a, by simp, by simp⟩
    · obtain ⟨m, hm, q⟩ := ih c
      by_cases d : a ≤ m
      · exact ⟨a, by simp, fun y hy => by
          rcases List.mem_cons.mp hy with rfl | hy
          · exact Nat.le_refl _
          · exact Nat.le_trans d (q y hy)⟩
      · exact ⟨m, by simp [hm], fun y hy => by
          rcases List.mem_cons.mp hy with rfl | hy
          · omega
          · exact q y hy⟩
section
variable {P : Program} {w : World} {K : PySem.W.Frag} {mg : Str → Option Value} {base : Heap}
variable {H : Hp} {σ : L2.St} {ta te : TE}
/-- min of a new list -/
theorem ev_minN {L : List Nat} {m : Nat} (h : EvL te σ H (nv L)) (hm : m ∈ L) (hl : ∀ y ∈ L, m ≤ y) : Ev (tCB (rMin K) (tCons te tNil)) σ H (.int (m : Int)) := fun H1 e Q q =>
  h H1 e _ fun p H2 _ e2 h2 => ⟨p, iz L, rfl, by rw [iz_nv]; exact sq_of h2, by rw [List.length_map]; exact List.length_pos_of_mem hm, fun n hn hy => by
    obtain ⟨k, hk, rfl⟩ := List.mem_map.mp hn
    have h1 := hl k hk
    have h2 := hy (m : Int) (List.mem_map.mpr ⟨m, hm, rfl⟩)
    have : (m : Int) = (k : Int) := by omega
    rw [← this]
    exact q H2 e2⟩
theorem ev_minT {a : Addr} {p : Z2} (ha : Ev ta σ H (.ref a)) (h : P2 K H a p) (lt : p.1 < p.2) : Ev (tCB (rMinT K) (tCons ta tNil)) σ H (.int p.1) := fun H1 e Q q =>
  ha H1 e _ fun H2 e2 => ⟨a, p.1, [p.2], rfl, ex_t (e.trans e2) h, by
    show Q (.int (if p.2 < p.1 then p.2 else p.1)) H2
    rw [if_neg (by omega)]
    exact q H2 e2⟩
theorem et_yes : EvT tYes σ H true := fun H1 _ _ q => q H1 (Ex.refl H1)
theorem nv_at {L : List Nat} {i : Nat} {x : V} (h : (nv L)[i]? = some x) : x = .int ((L.getD i 0 : Nat) : Int) ∧ L.getD i 0 ∈ L := by
  rw [List.getElem?_map] at h
  obtain ⟨y, hy, rfl⟩ := Option.map_eq_some_iff.mp h
  rw [List.getD_eq_getElem?_getD, hy]
  exact ⟨rfl, List.mem_of_getElem? hy⟩
def spRing (K : PySem.W.Frag) (C : Addr) : Sp := fun vs H Q _ => ∃ (a l : Addr) (sz : Nat) (S : Plan) (L : List Nat), vs = [.ref a, .ref l] ∧ Dw K C H a sz S ∧ Pre5 S ∧ SqL K H l (nv L) ∧ L ≠ [] ∧ L.length ≤ 40000 ∧ (∀ i ∈ L, i < S.lines.length) ∧
  ∀ (e : Dart) t H', LeastD S L e → H t = none → Ex H H' → H' t = some (.tup (vz (lnZ e))) → Q (.ref t) H'
theorem ok_first_of_ring (T : Txt K mg) : FnOk P w K mg base CX0 1 T.first_of_ring.f T.first_of_ring.fd ["drawing", "leads"] (spRing K T.Drawing.C) := by
  refine T.first_of_ring.F.ok sc_first_of_ring (fun vs H Q E h => ?_) (fun cdv A outer s H vs Q E hr h => ?_)
  · obtain ⟨a, l, sz, S, L, rfl, _⟩ := h
    rfl
  · refine ⟨_, (pss_cons (ps_set (i := 2) sc_first_of_ring.nd rfl (.inr rfl) (pe_callB (cr_min rfl) (by rfl) T.n_min (by decide +kernel) (pa_cons (pe_lc (own := [("lead", 3)]) (g := (gName 3)) rfl sc_first_of_ring.nd (pi_list (pv 1)) (blkOk_by (N := N_first_of_ring) (sc := defScope s_first_of_ring) (by decide +kernel)) (fun _ _ _ _ _ => (pg_name (i := 3) sc_first_of_ring.nd rfl (Or.inl rfl))) (fun _ _ _ _ _ => pts_nil) (fun _ _ _ _ _ => (pe_callB (show CallR _ _ (LeadT.rMinT K) from LeadT.cr_minT rfl (hu_of hr)) (by rfl) T.n_min (by decide +kernel) (pa_cons (pe_ix (show IxR _ (rIxL K) from ix_list) (show PE _ _ (tFld K _ _) from pe_fld (pv 0) rfl) (pv 3) (fun _ _ => rfl)) pa_nil)))) pa_nil)))
    (pss_one (ps_ret (pe_tup (pa_cons (pv 2) (pa_cons (pe_callB (cr_min rfl) (by rfl) T.n_min (by decide +kernel) (pa_cons (pe_lc (own := [("lead", 3)]) (g := (gName 3)) rfl sc_first_of_ring.nd (pi_list (pv 1)) (blkOk_by (N := N_first_of_ring) (sc := defScope s_first_of_ring) (by decide +kernel)) (fun _ _ _ _ _ => (pg_name (i := 3) sc_first_of_ring.nd rfl (Or.inl rfl))) (fun _ _ _ _ _ => (pts_one (pt_cmpR (show OpR _ _ (rIn K false) from op_in_seq) (pv 2) (pe_ix (show IxR _ (rIxL K) from ix_list) (show PE _ _ (tFld K _ _) from pe_fld (pv 0) rfl) (pv 3) (fun _ _ => rfl)) rfl))) (fun _ _ _ _ _ => (pv 3))) pa_nil)) pa_nil)))))), ?_⟩
    obtain ⟨a, l, sz, S, L, rfl, hD, hP, hl, hne, hn, hb, k⟩ := h
    obtain ⟨dx, c, l1, l2, l3, D⟩ := hD
    have cl := T.Drawing.cl
    have ln : (nv L).length = L.length := List.length_map _
    have two : ∀ x y : V, [x, y].length ≤ 100000 := fun _ _ => by show 2 ≤ 100000; decide
    obtain ⟨pt, hpt, mpt⟩ := exists_min (L.map fun i => (GlaLead.lineOf S i).1) (by simpa using hne)
    obtain ⟨i0, hi0, ei0⟩ := List.mem_map.mp hpt
    have lts : ∀ i ∈ L, (GlaLead.lineOf S i).1 < (GlaLead.lineOf S i).2 := fun i hi => (hP.line_lt (line_mem (hb i hi))).1
    have c1 : EvL (tLc (iList K (tVar 1)) (gName 3) tYes (tCB (rMinT K) (tCons (tOp (rIxL K) (tFld K (tVar 0) "lines") (tVar 3)) tNil)) [3]) [some (.ref a), some (.ref l), none, none] H (nv (L.map fun i => (GlaLead.lineOf S i).1)) := by
      have := el_lcL (K := K) (σ := [some (.ref a), some (.ref l), none, none]) (te := tCB (rMinT K) (tCons (tOp (rIxL K) (tFld K (tVar 0) "lines") (tVar 3)) tNil)) (tl := tVar 1) (j := 3) (vs := [3]) (t := tYes) (fun _ => true) (fun i => V.int (((GlaLead.lineOf S (L.getD i 0)).1 : Nat) : Int)) (ev_var rfl) hl (by rw [ln]; omega) (fun x => rfl) (fun i x H1 e1 hi => et_yes) (fun i x H1 e1 hi _ => by
        obtain ⟨rfl, im⟩ := nv_at hi
        obtain ⟨p1, hp1, ev1⟩ := ev_dln (σ := [some (.ref a), some (.ref l), none, some (.int ((L.getD i 0 : Nat) : Int))]) (ta := tVar 0) (tb := tVar 3) (D.mono e1) cl T.Drawing.na_lines (ev_var rfl) (ev_var rfl) rfl (hb _ im)
        have := lts _ im
        exact ev_minT (p := lnZ (GlaLead.lineOf S (L.getD i 0))) ev1 hp1 (by show ((GlaLead.lineOf S (L.getD i 0)).1 : Int) < ((GlaLead.lineOf S (L.getD i 0)).2 : Int); omega))
      rw [ln, given_filter L (fun _ => true) (fun i => V.int (((GlaLead.lineOf S i).1 : Nat) : Int)) 0] at this
      rw [show nv (L.map fun i => (GlaLead.lineOf S i).1) = (L.filter fun _ => true).map fun i => V.int (((GlaLead.lineOf S i).1 : Nat) : Int) by rw [List.filter_eq_self.mpr (by simp), nv, List.map_map]; rfl]
      exact this
    refine q_asg (v := .int (pt : Int)) (ev_minN c1 hpt mpt) fun H1 e1 => ?_
    obtain ⟨f, hf, mf⟩ := exists_min (L.filter fun i => (GlaLead.lineOf S i).1 == pt || (GlaLead.lineOf S i).2 == pt) (by
      intro z
      have : i0 ∈ (L.filter fun i => (GlaLead.lineOf S i).1 == pt || (GlaLead.lineOf S i).2 == pt) := List.mem_filter.mpr ⟨hi0, by simp [ei0]⟩
      rw [z] at this
      cases this)
    have c2 : EvL (tLc (iList K (tVar 1)) (gName 3) (tTest (tOp (rIn K false) (tVar 2) (tOp (rIxL K) (tFld K (tVar 0) "lines") (tVar 3)))) (tVar 3) [3]) [some (.ref a), some (.ref l), some (.int (pt : Int)), none] H1 (nv (L.filter fun i => (GlaLead.lineOf S i).1 == pt || (GlaLead.lineOf S i).2 == pt)) := by
      have := el_lcL (K := K) (σ := [some (.ref a), some (.ref l), some (.int (pt : Int)), none]) (te := tVar 3) (tl := tVar 1) (j := 3) (vs := [3]) (t := tTest (tOp (rIn K false) (tVar 2) (tOp (rIxL K) (tFld K (tVar 0) "lines") (tVar 3)))) (fun i => (GlaLead.lineOf S (L.getD i 0)).1 == pt || (GlaLead.lineOf S (L.getD i 0)).2 == pt) (fun i => V.int ((L.getD i 0 : Nat) : Int)) (ev_var rfl) (ex_l e1 hl) (by rw [ln]; omega) (fun x => rfl) (fun i x H2 e2 hi => by
        obtain ⟨rfl, im⟩ := nv_at hi
        obtain ⟨p1, hp1, ev1⟩ := ev_dln (σ := [some (.ref a), some (.ref l), some (.int (pt : Int)), some (.int ((L.getD i 0 : Nat) : Int))]) (ta := tVar 0) (tb := tVar 3) (D.mono (e1.trans e2)) cl T.Drawing.na_lines (ev_var rfl) (ev_var rfl) rfl (hb _ im)
        refine et_is (et_test (ev_op (ev_var rfl) ev1 (rv_isT hp1 rfl rfl))) ?_
        unfold inV vz lnZ
        simp only [List.any_cons, List.any_nil, eqV, Bool.or_false]
        rw [Bool.eq_iff_iff]
        simp only [Bool.or_eq_true, beq_iff_eq]
        omega) (fun i x H2 e2 hi _ => by
        obtain ⟨rfl, im⟩ := nv_at hi
        exact ev_var rfl)
      rw [ln, given_filter L (fun i => (GlaLead.lineOf S i).1 == pt || (GlaLead.lineOf S i).2 == pt) (fun i => V.int ((i : Nat) : Int)) 0] at this
      exact this
    refine s_retU (eu_tup (ea_cons (ev_var rfl) (ea_cons (ev_minN c2 hf mf) ea_nil)) (two _ _)) fun t H2 nt e2 h2 => ?_
    obtain ⟨fL, fe⟩ := List.mem_filter.mp hf
    have fe : (GlaLead.lineOf S f).1 = pt ∨ (GlaLead.lineOf S f).2 = pt := by simpa using fe
    refine k (pt, f) t H2 ⟨fL, fe, fun g gL ge => ?_⟩ (fresh_back e1 nt) (e1.trans e2) h2
    rw [Bool.eq_false_iff, Ne, lineBelow_iff]
    have g1 := mpt _ (List.mem_map.mpr ⟨g.2, gL, rfl⟩)
    have g2 := lts g.2 gL
    by_cases c : g.1 = pt
    · have := mf g.2 (List.mem_filter.mpr ⟨gL, by rw [← c]; simpa using ge⟩)
      show ¬ (g.1 < pt ∨ g.1 = pt ∧ g.2 < f)
      omega
    · show ¬ (g.1 < pt ∨ g.1 = pt ∧ g.2 < f)
      omega
end
end Lead
namespace Lead
open PySem PySem.Spec PyProof.Rows L2 Evl LeadT
open GlaPlan
/-- a strip: its leads along its row, the row's points -/
def STp (S : Plan) (H : Hp) (t : Addr) (w : List Dart) : Prop := ∃ p q, H t = some (.tup [.ref p, .ref q]) ∧ H p = some (.lst (nv (w.map fun x => x.2))) ∧ H q = some (.lst (nv (GlaLead.rowPts S w)))
theorem STp.mono {S : Plan} {H H' : Hp} {t : Addr} {w : List Dart} (h : STp S H t w) (e : Ex H H') : STp S H' t w := let ⟨p, q, a, b, c⟩ := h; ⟨p, q, e _ _ a, e _ _ b, e _ _ c⟩
theorem at_last {xs : List V} {y : V} (ys : List V) (h : xs = ys ++ [y]) : atI xs (-1) = some y := by
  subst h
  unfold atI ixN
  rw [if_neg (by decide), if_pos (by rw [List.length_append, List.length_singleton]; omega)]
  show (ys ++ [y])[_]? = _
  rw [List.length_append, List.length_singleton, show ((-1 : Int) + ((ys.length + 1 : Nat) : Int)).toNat = ys.length by omega, List.getElem?_append_right (Nat.le_refl _), Nat.sub_self]
  rfl
/-- the same, its two lists new -/
def STn (S : Plan) (H0 H : Hp) (t : Addr) (w : List Dart) : Prop := ∃ p q, H0 p = none ∧ H0 q = none ∧ H t = some (.tup [.ref p, .ref q]) ∧ H p = some (.lst (nv (w.map fun x => x.2))) ∧ H q = some (.lst (nv (GlaLead.rowPts S w)))
theorem STn.back {S : Plan} {H0 H1 H : Hp} {t : Addr} {w : List Dart} (e : Ex H0 H1) (h : STn S H1 H t w) : STn S H0 H t w := let ⟨p, q, a, b, c⟩ := h; ⟨p, q, fresh_back e a, fresh_back e b, c⟩
theorem STn.st {S : Plan} {H0 H : Hp} {t : Addr} {w : List Dart} (h : STn S H0 H t w) : STp S H t w := let ⟨p, q, _, _, c⟩ := h; ⟨p, q, c⟩
/-- the last point and lead of a way -/
theorem way_last {s : GlaLead.LeadShop} {S : Plan} {d : Dart} {m : Nat} (O : Pre10 S) (R : Run s S d m) (hw : way s S d = (List.range m).map (dk s S d)) : atI (nv (GlaLead.rowPts S (way s S d))) (-1) = some (.int ((rev S (dk s S d (m - 1))).1 : Int)) ∧ atI (nv ((way s S d).map fun x => x.2)) (-1) = some (.int ((rev S (dk s S d (m - 1))).2 : Int)) := by
  obtain ⟨k, rfl⟩ : ∃ k, m = k + 1 := ⟨m - 1, by have := R.pos; omega⟩
  rw [hw, rows_pts O R, show k + 1 - 1 = k by omega]
  constructor
  · refine at_last (nv (d.1 :: (List.range k).map fun j => GlaLead.other S (dk s S d j).2 (dk s S d j).1)) ?_
    rw [List.range_succ, List.map_append, ← List.cons_append, nv, List.map_append]
    rfl
  · refine at_last (nv ((List.range k).map fun j => (dk s S d j).2)) ?_
    rw [List.range_succ, List.map_append, List.map_append, List.map_map, nv, List.map_append]
    rfl
section
variable {P : Program} {w : World} {K : PySem.W.Frag} {mg : Str → Option Value} {base : Heap}
variable {H : Hp} {σ : L2.St} {C a j : Addr} {sz : Nat} {S : Plan} {s : GlaLead.LeadShop}
/-- return trail(..)[:2] -/
theorem s_trail2 {D : Ends} {E : XK} {ar : TA} {e : Dart} (hD : Dw K C H a sz S) (O : Pre10 S) (hJ : JD s S H j) (v : VD S e) (ha : EvA ar σ H [.ref a, .ref j, .int (e.2 : Int), .int (e.1 : Int)]) (k : ∀ t H', Ex H H' → STn S H H' t (way s S e) → D.rt (.ref t) H') :
    tRet (tSl (rSlT K) (tCall (spTrail K C) [] E ar) tNoPart (tPart (tC (.int 2)))) D σ H :=
  ha H (Ex.refl H) _ fun H1 e1 => by
    rw [List.append_nil]
    refine ⟨a, j, sz, S, s, e, rfl, hD.mono e1, O, hJ.mono e1, v, fun t p q H2 m ring nt np nq e2 ht hp hq R hw hr => ?_⟩
    refine ⟨2, rfl, t, _, rfl, st_of ht, ?_, fun t2 nt2 => ?_⟩
    · show ¬ (HT.sIx 3 0 none = 0 ∧ HT.sIx 3 3 (some 2) = 3)
      decide
    · have x : Ex H2 (upd H2 t2 (.tup (cutV [.ref p, .ref q, .bl ring] none (some 2)))) := Ex.new nt2
      refine k t2 _ ((e1.trans e2).trans x) ⟨p, q, fresh_back e1 np, fresh_back e1 nq, ?_, x _ _ hp, x _ _ hq⟩
      rw [upd_same]
      rfl
/-- f([t1, t2]), the two of the list new tuples -/
theorem q_pair2 {D : Ends} {tz : TS} {i : Nat} {t1 t2 : TE} {xs1 xs2 : List V} {r : List V → Hp → VK → Prop} (h1 : EvU t1 σ H xs1) (h2 : EvU t2 σ H xs2)
    (k : ∀ x1 x2 z H', Ex H H' → x1 ≠ x2 → H' x1 = some (.tup xs1) → H' x2 = some (.tup xs2) → H' z = some (.lst [V.ref x1, V.ref x2]) → r [.ref z] H' (fun v H2 => tz D (σ.set i (some v)) H2)) : tSeq (tAsg (tCB r (tCons (tLst (tCons t1 (tCons t2 tNil))) tNil)) (gName i)) tz D σ H :=
  h1 H (Ex.refl H) _ fun x1 H5 nx1 e5 hx1 => h2 H5 e5 _ fun x2 H6 nx2 e6 hx2 => ⟨(by show 2 ≤ sizeLine; decide), fun z nz => by
    have e7 : Ex H6 (upd H6 z (.lst [V.ref x1, V.ref x2])) := Ex.new nz
    exact k x1 x2 z _ ((e5.trans e6).trans e7) (ne_of_none hx1 nx2) (e7 _ _ (e6 _ _ hx1)) (e7 _ _ hx2) upd_same⟩
def spStrip (K : PySem.W.Frag) (C : Addr) : Sp := fun vs H Q _ => ∃ (a j : Addr) (sz : Nat) (S : Plan) (s : GlaLead.LeadShop) (i : Nat), vs = [.ref a, .ref j, .int (i : Int)] ∧ Dw K C H a sz S ∧ Pre10 S ∧ JD s S H j ∧ i ∈ GlaLead.leads S ∧ ∀ t H', Ex H H' → STn S H H' t (GlaLead.stripOf s S i) → Q (.ref t) H'
theorem ok_strip_of (T : Txt K mg) : FnOk P w K mg base CX0 3 T.strip_of.f T.strip_of.fd ["drawing", "joins", "lead"] (spStrip K T.Drawing.C) := by
  refine T.strip_of.F.ok sc_strip_of (fun vs H Q E h => ?_) (fun cdv A outer s H vs Q E hr h => ?_)
  · obtain ⟨a, j, sz, S, s, i, rfl, _⟩ := h
    rfl
  · refine ⟨_, (pss_cons (ps_asg (pe_ix ix_list (pe_fld (pv 0) rfl) (pv 2) (fun _ _ => rfl)) (pg_tup rfl (pgs_cons (pg_name (i := 3) sc_strip_of.nd rfl (Or.inl rfl)) (pgs_cons (pg_name (i := 4) sc_strip_of.nd rfl (Or.inl rfl)) pgs_nil))))
    (pss_cons (ps_asg (pe_call (ok_trail T) (hr.mono (by decide)) rfl T.trail.g T.trail.F.kp T.trail.b .nil pass0 (pa_cons (pv 0) (pa_cons (pv 1) (pa_cons (pv 2) (pa_cons (pv 3) pa_nil))))) (pg_tup rfl (pgs_cons (pg_name (i := 5) sc_strip_of.nd rfl (Or.inl rfl)) (pgs_cons (pg_name (i := 6) sc_strip_of.nd rfl (Or.inl rfl)) (pgs_cons (pg_name (i := 7) sc_strip_of.nd rfl (Or.inl rfl)) pgs_nil)))))
    (pss_cons (ps_if (pt_val (pv 7)) (pss_cons (ps_asg (pe_call (ok_first_of_ring T) (hr.mono (by decide)) rfl T.first_of_ring.g T.first_of_ring.F.kp T.first_of_ring.b .nil pass0 (pa_cons (pv 0) (pa_cons (pv 5) pa_nil))) (pg_tup rfl (pgs_cons (pg_name (i := 8) sc_strip_of.nd rfl (Or.inl rfl)) (pgs_cons (pg_name (i := 9) sc_strip_of.nd rfl (Or.inl rfl)) pgs_nil))))
    (pss_one (ps_ret (pe_slice sl_tup (pe_call (ok_trail T) (hr.mono (by decide)) rfl T.trail.g T.trail.F.kp T.trail.b .nil pass0 (pa_cons (pv 0) (pa_cons (pv 1) (pa_cons (pv 9) (pa_cons (pv 8) pa_nil))))) po_none (po_some pe_int))))) pss_nil)
    (pss_cons (ps_asg (pe_call (ok_trail T) (hr.mono (by decide)) rfl T.trail.g T.trail.F.kp T.trail.b .nil pass0 (pa_cons (pv 0) (pa_cons (pv 1) (pa_cons (pv 2) (pa_cons (pv 4) pa_nil))))) (pg_tup rfl (pgs_cons (pg_name (i := 10) sc_strip_of.nd rfl (Or.inl rfl)) (pgs_cons (pg_name (i := 11) sc_strip_of.nd rfl (Or.inl rfl)) (pgs_cons (pg_name (i := 7) sc_strip_of.nd rfl (Or.inl rfl)) pgs_nil)))))
    (pss_cons (ps_set (i := 12) sc_strip_of.nd rfl (.inl rfl) (pe_callB cr_sortedPO (by rfl) T.n_sorted (by decide +kernel) (pa_cons (pe_lst (pa_cons (pe_tup (pa_cons (pe_ix ix_list (pv 6) (pe_un un_neg pe_int) (fun _ _ => rfl)) (pa_cons (pe_ix ix_list (pv 5) (pe_un un_neg pe_int) (fun _ _ => rfl)) pa_nil))) (pa_cons (pe_tup (pa_cons (pe_ix ix_list (pv 11) (pe_un un_neg pe_int) (fun _ _ => rfl)) (pa_cons (pe_ix ix_list (pv 10) (pe_un un_neg pe_int) (fun _ _ => rfl)) pa_nil))) pa_nil))) pa_nil)))
    (pss_one (ps_ret (pe_slice sl_tup (pe_call (ok_trail T) (hr.mono (by decide)) rfl T.trail.g T.trail.F.kp T.trail.b .nil pass0 (pa_cons (pv 0) (pa_cons (pv 1) (pa_cons (pe_ix ix_tup (pe_ix ix_list (pv 12) pe_int (fun _ _ => rfl)) pe_int (fun _ _ => rfl)) (pa_cons (pe_ix ix_tup (pe_ix ix_list (pv 12) pe_int (fun _ _ => rfl)) pe_int (fun _ _ => rfl)) pa_nil))))) po_none (po_some pe_int))))))))), ?_⟩
    obtain ⟨a, j, sz, S, s, i, rfl, hD0, hP, hJ, hi, k⟩ := h
    have hD := hD0
    obtain ⟨dx, c, l1, l2, l3, D⟩ := hD
    have cl := T.Drawing.cl
    have nl := hP.p.t.2.1
    have vd := VD.d0 hi
    have rd := rev_d0 hP hi
    have two : ∀ x y : V, [x, y].length ≤ 100000 := fun _ _ => by show 2 ≤ 100000; decide
    obtain ⟨u, hu, evu⟩ := ev_dln (σ := [some (.ref a), some (.ref j), some (.int (i : Int)), none, none, none, none, none, none, none, none, none, none]) (ta := tVar 0) (tb := tVar 2) D cl T.Drawing.na_lines (ev_var rfl) (ev_var rfl) rfl (leads_lt hi)
    refine evu H (Ex.refl H) _ fun H1 e1 => ?_
    refine ⟨u, _, rfl, hu.mono e1, rfl, _, _, rfl, _, _, rfl, rfl, ?_⟩
    refine ⟨_, rfl, _, rfl, _, rfl, _, rfl, ?_⟩
    refine ⟨a, j, sz, S, s, d0 S i, rfl, hD0.mono e1, hP, hJ.mono e1, vd, fun t p q H2 m ring nt np nq e2 ht hp hq R hw hring => ?_⟩
    refine ⟨t, _, rfl, st_of ht, rfl, _, _, rfl, _, _, rfl, _, _, rfl, rfl, ?_⟩
    have e12 := e1.trans e2
    have wl : ((way s S (d0 S i)).map fun x => x.2).length = m := by rw [hw, List.length_map, List.length_map, List.length_range]
    have ml : m ≤ S.lines.length := run_len hP vd (fun k hk => ⟨_, R.on k hk⟩) R.new
    have mp := R.pos
    refine q_when (et_B (ev_var rfl)) (fun tb H3 e3 => ?_) (fun tb H3 e3 => ?_)
    · have st := hring.mp tb
      have e13 := e12.trans e3
      have mL : ∀ x, x ∈ ((way s S (d0 S i)).map fun x => x.2) ↔ Rel s S i x := by
        intro x
        rw [List.mem_map]
        constructor
        · rintro ⟨f, hf, rfl⟩
          have r := (mem_way hP vd).mp hf
          exact ⟨d0 S i, f, vd, rfl, r.vd hP vd, rfl, r⟩
        · intro r
          obtain ⟨f, vf, fe, rf⟩ := ring_rel hP vd mp st r
          exact ⟨f, (mem_way hP vd).mpr rf, fe⟩
      refine ⟨_, rfl, _, rfl, ?_⟩
      refine ⟨a, p, sz, S, (way s S (d0 S i)).map fun x => x.2, rfl, hD0.mono e13, hP.p, sq_of (e3 _ _ hp), ?_, by omega, fun x hx => leads_lt (((mL x).mp hx).lead hP), fun e t2 H4 le nt2 e4 ht2 => ?_⟩
      · intro z
        rw [z] at wl
        simp at wl
        omega
      · refine ⟨t2, _, rfl, st_of ht2, rfl, _, _, rfl, _, _, rfl, rfl, ?_⟩
        have e14 := e13.trans e4
        have re := (mL _).mp le.l
        have ve : VD S e := ⟨re.lead hP, le.at_⟩
        refine s_trail2 (hD0.mono e14) hP (hJ.mono e14) ve (ea_cons (ev_var rfl) (ea_cons (ev_var rfl) (ea_cons (ev_var rfl) (ea_cons (ev_var rfl) ea_nil)))) fun t3 H5 e5 h5 => k t3 H5 (e14.trans e5) (STn.back e14 ?_)
        rw [strip_ring hP hi mp st ve re (fun f vf rf => le.mi f ((mL _).mpr rf) vf.e)]
        exact h5
    · have st : itn s S m (d0 S i) = none := by
        rcases R.stop with z | z
        · exact z
        · rw [hring.mpr z] at tb
          cases tb
      obtain ⟨m', R', st', he⟩ := line_ends hP hi R st
      have e13 := e12.trans e3
      refine ⟨_, rfl, _, rfl, _, rfl, _, rfl, ?_⟩
      refine ⟨a, j, sz, S, s, ((GlaLead.lineOf S i).2, i), rfl, hD0.mono e13, hP, hJ.mono e13, by rw [← rd]; exact vd.rv hP, fun t2 p2 q2 H4 m2 ring2 nt2 np2 nq2 e4 ht2 hp2 hq2 R2 hw2 hring2 => ?_⟩
      refine ⟨t2, _, rfl, st_of ht2, rfl, _, _, rfl, _, _, rfl, _, _, rfl, rfl, ?_⟩
      rw [← rd] at R2 hw2 hp2 hq2
      have mm := run_uniq R2 R'
      subst mm
      have e14 := e13.trans e4
      obtain ⟨a1, a2⟩ := way_last hP R hw
      obtain ⟨b1, b2⟩ := way_last hP R2 hw2
      rw [strip_line hP he] at k
      have E1m := (he _).mpr (.inl rfl)
      have E2m := (he _).mpr (.inr rfl)
      have v1 := ((endsIn_mem hP hi).mp E1m).1
      have v2 := ((endsIn_mem hP hi).mp E2m).1
      generalize rev S (dk s S (d0 S i) (m - 1)) = E1 at a1 a2 k v1
      generalize rev S (dk s S (rev S (d0 S i)) (m2 - 1)) = E2 at b1 b2 k v2
      have hp4 := e4 _ _ (e3 _ _ hp)
      have hq4 := e4 _ _ (e3 _ _ hq)
      -- the list of the two ends
      refine q_pair2 (xs1 := vz (lnZ E1)) (xs2 := vz (lnZ E2)) (eu_tup (ea_cons (ev_op (ev_var rfl) (ev_un ev_c ru_neg) (rv_ixL (sq_of hq4) a1)) (ea_cons (ev_op (ev_var rfl) (ev_un ev_c ru_neg) (rv_ixL (sq_of hp4) a2)) ea_nil)) (two _ _))
        (eu_tup (ea_cons (ev_op (ev_var rfl) (ev_un ev_c ru_neg) (rv_ixL (sq_of hq2) b1)) (ea_cons (ev_op (ev_var rfl) (ev_un ev_c ru_neg) (rv_ixL (sq_of hp2) b2)) ea_nil)) (two _ _)) fun x1 x2 z H7 e7 x12 hx1 hx2 hz => ?_
      have e17 := e14.trans e7
      refine ⟨z, [V.ref x1, V.ref x2], fun x => if x = V.ref x1 then lnZ E1 else lnZ E2, rfl, sq_of hz, fun x hx => ?_, fun ys r so sb nr => ?_⟩
      · simp only [List.mem_cons, List.not_mem_nil, or_false] at hx
        rcases hx with rfl | rfl
        · exact ⟨x1, rfl, by dsimp only; rw [if_pos rfl]; exact hx1⟩
        · exact ⟨x2, rfl, by dsimp only; rw [if_neg (by intro q; exact x12 (V.ref.inj q).symm)]; exact hx2⟩
      · have pm := sb.perm
        have e8 : Ex H7 (upd H7 r (.lst ys)) := Ex.new nr
        have e18 := e17.trans e8
        have hr8 : (upd H7 r (.lst ys)) r = some (.lst ys) := upd_same
        have hx1 := e8 _ _ hx1
        have hx2 := e8 _ _ hx2
        -- the first of the two
        have hd : ∃ x0 rest, ys = V.ref x0 :: rest ∧ (upd H7 r (.lst ys)) x0 = some (.tup (vz (lnZ (if lineBelow E2 E1 = true then E2 else E1)))) := by
          have ne : ys ≠ [] := by
            intro q
            rw [q] at pm
            cases pm.symm.eq_nil
          obtain ⟨y, rest, rfl⟩ := List.exists_cons_of_ne_nil ne
          have ym := pm.mem_iff.mp (show y ∈ y :: rest by simp)
          have le : ∀ x ∈ [V.ref x1, V.ref x2], SrtO.lexB (if x = V.ref x1 then lnZ E1 else lnZ E2) (if y = V.ref x1 then lnZ E1 else lnZ E2) = false := by
            intro x hx
            rcases List.mem_cons.mp (pm.mem_iff.mpr hx) with rfl | q
            · rw [SrtO.lexB_no]
              omega
            · exact (List.pairwise_cons.mp so).1 x q
          have l1 := le (V.ref x1) (by simp)
          have l2 := le (V.ref x2) (by simp)
          rw [if_pos rfl] at l1
          rw [if_neg (by intro q; exact x12 (V.ref.inj q).symm)] at l2
          rw [SrtO.lexB_no] at l1 l2
          simp only [List.mem_cons, List.not_mem_nil, or_false] at ym
          rcases ym with rfl | rfl
          · refine ⟨x1, rest, rfl, ?_⟩
            rw [if_pos rfl] at l2
            have : ¬ lineBelow E2 E1 = true := by
              rw [lineBelow_iff]
              unfold lnZ at l2
              dsimp only at l2
              omega
            rw [if_neg this]
            exact hx1
          · refine ⟨x2, rest, rfl, ?_⟩
            rw [if_neg (by intro q; exact x12 (V.ref.inj q).symm)] at l1
            by_cases c : lineBelow E2 E1 = true
            · rw [if_pos c]
              exact hx2
            · have : E1 = E2 := by
                rw [lineBelow_iff] at c
                unfold lnZ at l1
                dsimp only at l1
                refine Prod.ext ?_ ?_ <;> omega
              rw [if_neg c, this]
              exact hx2
        obtain ⟨x0, rest, hy, h0⟩ := hd
        have vE : VD S (if lineBelow E2 E1 = true then E2 else E1) := by
          split
          · exact v2
          · exact v1
        generalize (if lineBelow E2 E1 = true then E2 else E1) = E0 at h0 vE k
        have i0 : atI ys 0 = some (V.ref x0) := at_of (j := 0) rfl (by rw [hy]; rfl)
        refine s_trail2 (e := E0) (hD0.mono e18) hP (hJ.mono e18) vE (ea_cons (ev_var rfl) (ea_cons (ev_var rfl) (ea_cons (ev_p1 (p := lnZ E0) (ev_op (ev_var rfl) ev_c (rv_ixL (sq_of hr8) i0)) (P2.of h0)) (ea_cons (ev_p0 (p := lnZ E0) (ev_op (ev_var rfl) ev_c (rv_ixL (sq_of hr8) i0)) (P2.of h0)) ea_nil)))) fun t3 H9 e9 h9 => k t3 H9 (e18.trans e9) (STn.back e18 h9)
end
end Lead
namespace Lead
open PySem PySem.Spec PyProof.Rows L2 Evl LeadT
open GlaPlan
def kAddN (ks : List Nat) (v : Nat) : List Nat := if v ∈ ks then ks else ks ++ [v]
theorem kd_putN (ks : List Nat) (v : Nat) : putK (kd ks) (Sum.inl ((v : Nat) : Int)) (V.bl true) = kd (kAddN ks v) := by
  unfold kAddN
  by_cases c : v ∈ ks
  · unfold putK
    rw [valV_any, kd_val, if_pos (decide_eq_true c), if_pos c]
    unfold kd
    rw [List.map_map]
    refine List.map_congr_left fun x _ => ?_
    show (if (Sum.inl ((x : Nat) : Int) : Key) = Sum.inl ((v : Nat) : Int) then (Sum.inl ((x : Nat) : Int), V.bl true) else (Sum.inl ((x : Nat) : Int), V.bl true)) = _
    split <;> rfl
  · rw [if_neg c, kd_put ks v c]
theorem kAddN_mem {ks : List Nat} {d e : Nat} : e ∈ kAddN ks d ↔ e ∈ ks ∨ e = d := by
  unfold kAddN
  split
  · constructor
    · exact .inl
    · rintro (q | rfl)
      · exact q
      · assumption
  · rw [List.mem_append, List.mem_singleton]
theorem kAddN_nd {ks : List Nat} {d : Nat} (h : ks.Nodup) : (kAddN ks d).Nodup := by
  unfold kAddN
  split
  · exact h
  · rename_i c
    rw [List.nodup_append]
    refine ⟨h, by simp, fun x hx y hy => ?_⟩
    rw [List.mem_singleton] at hy
    subst hy
    rintro rfl
    exact c hx
/-- a list of strips -/
def SL (S : Plan) (H : Hp) (p : Addr) (ws : List (List Dart)) : Prop := ∃ ts : List Addr, H p = some (.lst (ts.map V.ref)) ∧ ts.length = ws.length ∧ ∀ (i : Nat) (t : Addr) (w : List Dart), ts[i]? = some t → ws[i]? = some w → STp S H t w
structure SS (S : Plan) (H0 H : Hp) (d p : Addr) (es : List Addr) (ks : List Nat) (st : List Nat × List (List Dart)) : Prop where
  ex : Ex H0 H
  dn : H0 d = none
  pn : H0 p = none
  dp : d ≠ p
  dt : H d = some (.dK (kd ks))
  pl : H p = some (.lst (es.map V.ref))
  el : es.length = st.2.length
  at_ : ∀ (k : Nat) (e : Addr) (w : List Dart), es[k]? = some e → st.2[k]? = some w → ∃ p' q', (p' ≠ p ∧ q' ≠ p) ∧ H e = some (.tup [.ref p', .ref q']) ∧ H p' = some (.lst (nv (w.map fun x => x.2))) ∧ H q' = some (.lst (nv (GlaLead.rowPts S w)))
  nd : ks.Nodup
  mem : ∀ x, x ∈ ks ↔ x ∈ st.1
  sub : ∀ x ∈ ks, x ∈ GlaLead.leads S
section
variable {S : Plan} {H0 H H' : Hp} {d p : Addr} {es : List Addr} {ks : List Nat} {st : List Nat × List (List Dart)}
theorem SS.mono (h : SS S H0 H d p es ks st) (e : Ex H H') : SS S H0 H' d p es ks st := ⟨h.ex.trans e, h.dn, h.pn, h.dp, e _ _ h.dt, e _ _ h.pl, h.el, fun k x w a b => by
  obtain ⟨p', q', n, z1, z2, z3⟩ := h.at_ k x w a b
  exact ⟨p', q', n, e _ _ z1, e _ _ z2, e _ _ z3⟩, h.nd, h.mem, h.sub⟩
theorem SS.len (h : SS S H0 H d p es ks st) : ks.length ≤ S.lines.length := Nat.le_trans (nodup_len h.nd h.sub) (leads_len S)
theorem SS.put (h : SS S H0 H d p es ks st) {x : Nat} (hx : x ∈ GlaLead.leads S) : SS S H0 (upd H d (.dK (kd (kAddN ks x)))) d p es (kAddN ks x) (st.1 ++ [x], st.2) := by
  refine ⟨Ex.mut h.ex h.dn, h.dn, h.pn, h.dp, upd_same, by rw [upd_ne h.dp.symm]; exact h.pl, h.el, fun k e r a b => ?_, kAddN_nd h.nd, fun y => ?_, fun y hy => ?_⟩
  · obtain ⟨p', q', n, z1, z2, z3⟩ := h.at_ k e r a b
    have nd : ∀ {a : Addr} {o : HO}, H a = some o → (∀ ks, o ≠ .dK ks) → a ≠ d := by
      intro a o ha no z
      rw [z, h.dt] at ha
      exact no _ (Option.some.inj ha).symm
    exact ⟨p', q', n, by rw [upd_ne (nd z1 (by intro k z; cases z))]; exact z1, by rw [upd_ne (nd z2 (by intro k z; cases z))]; exact z2, by rw [upd_ne (nd z3 (by intro k z; cases z))]; exact z3⟩
  · rw [kAddN_mem, h.mem, List.mem_append, List.mem_singleton]
  · rcases kAddN_mem.mp hy with q | rfl
    · exact h.sub y q
    · exact hx
theorem SS.app (h : SS S H0 H d p es ks st) {t : Addr} {w : List Dart} {p' q' : Addr} (n : p' ≠ p ∧ q' ≠ p) (z1 : H t = some (.tup [.ref p', .ref q'])) (z2 : H p' = some (.lst (nv (w.map fun x => x.2)))) (z3 : H q' = some (.lst (nv (GlaLead.rowPts S w)))) : SS S H0 (upd H p (.lst (es.map V.ref ++ [.ref t]))) d p (es ++ [t]) ks (st.1, st.2 ++ [w]) := by
  have nt : ∀ {a : Addr} {xs : List V}, H a = some (.tup xs) → a ≠ p := by
    intro a xs ha z
    rw [z, h.pl] at ha
    cases ha
  refine ⟨Ex.mut h.ex h.pn, h.dn, h.pn, h.dp, by rw [upd_ne h.dp]; exact h.dt, by rw [upd_same, List.map_append]; rfl, by simp [h.el], fun k e r' a b => ?_, h.nd, h.mem, h.sub⟩
  by_cases c : k < es.length
  · rw [List.getElem?_append_left c] at a
    rw [List.getElem?_append_left (by rw [← h.el]; exact c)] at b
    obtain ⟨p', q', n, y1, y2, y3⟩ := h.at_ k e r' a b
    exact ⟨p', q', n, by rw [upd_ne (nt y1)]; exact y1, by rw [upd_ne n.1]; exact y2, by rw [upd_ne n.2]; exact y3⟩
  · have lt := (List.getElem?_eq_some_iff.mp a).1
    rw [List.length_append] at lt
    have ek : k = es.length := by simp at lt; omega
    rw [List.getElem?_append_right (by omega), ek, Nat.sub_self] at a
    rw [List.getElem?_append_right (by rw [← h.el]; omega), ek, h.el, Nat.sub_self] at b
    have a := Option.some.inj a
    have b := Option.some.inj b
    subst a b
    exact ⟨p', q', n, by rw [upd_ne (nt z1)]; exact z1, by rw [upd_ne n.1]; exact z2, by rw [upd_ne n.2]; exact z3⟩
theorem sStep_len (s : GlaLead.LeadShop) (S : Plan) : ∀ (w : List Nat) (st : List Nat × List (List Dart)), (w.foldl (sStep s S) st).2.length ≤ st.2.length + w.length
  | [], st => Nat.le_refl _
  | x :: w, st => by
    have := sStep_len s S w (sStep s S st x)
    have h2 : (sStep s S st x).2.length ≤ st.2.length + 1 := by
      unfold sStep
      split
      · omega
      · rw [List.length_append]
        exact Nat.le_refl _
    rw [List.foldl_cons, List.length_cons]
    omega
end
section
variable {P : Program} {w : World} {K : PySem.W.Frag} {mg : Str → Option Value} {base : Heap}
def spStrips (K : PySem.W.Frag) (C : Addr) : Sp := fun vs H Q _ => ∃ (a : Addr) (sz : Nat) (S : Plan) (s : GlaLead.LeadShop), vs = [.ref a, .int (s.a : Int), .int (s.b : Int)] ∧ Dw K C H a sz S ∧ Pre10 S ∧ S.pts.length ≤ 200 ∧ ∀ p H', H p = none → Ex H H' → SL S H' p (GlaLead.strips s S) → Q (.ref p) H'
theorem ok_strips_of (T : Txt K mg) : FnOk P w K mg base CX0 6 T.strips_of.f T.strips_of.fd ["drawing", "a", "b"] (spStrips K T.Drawing.C) := by
  refine T.strips_of.F.ok sc_strips_of (fun vs H Q E h => ?_) (fun cdv A outer s H vs Q E hr h => ?_)
  · obtain ⟨a, sz, S, s, rfl, _⟩ := h
    rfl
  · refine ⟨_, (pss_cons (ps_set (i := 3) sc_strips_of.nd rfl (.inl rfl) (pe_call (ok_leads_of T) (hr.mono (by decide)) rfl T.leads_of.g T.leads_of.F.kp T.leads_of.b .nil pass0 (pa_cons (pv 0) pa_nil)))
    (pss_cons (ps_set (i := 4) sc_strips_of.nd rfl (.inl rfl) (pe_call (ok_joins_of T) (hr.mono (by decide)) rfl T.joins_of.g T.joins_of.F.kp T.joins_of.b .nil pass0 (pa_cons (pv 0) (pa_cons (pv 3) (pa_cons (pv 1) (pa_cons (pv 2) pa_nil))))))
    (pss_cons (ps_set (i := 5) sc_strips_of.nd rfl (.inl rfl) pe_dnewK)
    (pss_cons (ps_set (i := 6) sc_strips_of.nd rfl (.inl rfl) (pe_lst pa_nil))
    (pss_cons (ps_for PassesOwn.never rfl (pi_list (pv 3)) (pg_name (i := 7) sc_strips_of.nd rfl (Or.inl rfl)) (pss_one (ps_if (pt_cmp (pc_dnotin (hu_of hr) (pv 7) (pv 5))) (pss_cons (ps_set (i := 8) sc_strips_of.nd rfl (.inl rfl) (pe_call (ok_strip_of T) (hr.mono (by decide)) rfl T.strip_of.g T.strip_of.F.kp T.strip_of.b .nil pass0 (pa_cons (pv 0) (pa_cons (pv 4) (pa_cons (pv 7) pa_nil)))))
    (pss_cons (ps_for PassesOwn.never rfl (pi_list (pe_ix ix_tup (pv 8) pe_int (fun _ _ => rfl))) (pg_name (i := 9) sc_strips_of.nd rfl (Or.inl rfl)) (pss_one (ps_dput (hu_of hr) (pv 5) (pv 9) pe_bl rfl)))
    (pss_one (ps_expr (pe_bm PySem.F.plainAttrs_list PySem.F.slot_list_append PySem.F.type_list_append mt_append (pv 6) (pa_cons (pv 8) pa_nil)))))) pss_nil)))
    (pss_one (ps_ret (pv 6)))))))), ?_⟩
    obtain ⟨a, sz, S, s, rfl, hD0, hP, h200, k⟩ := h
    have nl := hP.p.t.2.1
    refine ⟨_, rfl, a, sz, S, rfl, hD0, hP.p, fun l H1 nll e1 hl => ?_⟩
    refine ⟨_, rfl, _, rfl, _, rfl, _, rfl, ?_⟩
    refine ⟨a, l, sz, S, s, rfl, hD0.mono e1, hP, h200, sq_of hl, fun j H2 nj e2 hJ => ?_⟩
    have e12 := e1.trans e2
    have hl2 := e2 _ _ hl
    refine fun d nd => ?_
    have e3 : Ex H2 (upd H2 d (.dK [])) := Ex.new nd
    have d3 : (upd H2 d (.dK [])) d = some (.dK (kd [])) := upd_same
    show tSeq _ _ _ _ (upd H2 d (.dK []))
    generalize upd H2 d (.dK []) = H3 at e3 d3
    refine q_asgL (xs := []) (el_lst ea_nil (by show 0 ≤ 100000; decide)) fun p H4 np e4 h4 => ?_
    have O0 : SS S H2 H4 d p [] [] ([], []) := ⟨e3.trans e4, nd, fresh_back e3 np, ne_of_none d3 np, e4 _ _ d3, h4, rfl, fun k e r x => by simp at x, List.nodup_nil, by simp, by simp⟩
    have ln : (nv (GlaLead.leads S)).length = (GlaLead.leads S).length := List.length_map _
    have ll := leads_len S
    refine q_forL (xs := nv (GlaLead.leads S)) (ev_var rfl) (sq_of (e4 _ _ (e3 _ _ hl2)))
      (fun m σ' H' => (∃ es ks, SS S H2 H' d p es ks (((GlaLead.leads S).take m).foldl (sStep s S) ([], []))) ∧ ∃ v7 v8 v9, σ' = [some (.ref a), some (.int (s.a : Int)), some (.int (s.b : Int)), some (.ref l), some (.ref j), some (.ref d), some (.ref p), v7, v8, v9]) (fun H5 e5 => ⟨⟨[], [], O0.mono e5⟩, _, _, _, rfl⟩) (fun m σ' H' _ q => sq_of (q.1.choose_spec.choose_spec.ex _ _ hl2)) ?_ ?_
    · rintro m x σ' H' hm ⟨⟨es, ks, hO⟩, v7, v8, v9, rfl⟩
      rw [List.getElem?_map] at hm
      obtain ⟨i, hi, rfl⟩ := Option.map_eq_some_iff.mp hm
      have il := List.mem_of_getElem? hi
      have nx : ((GlaLead.leads S).take (m + 1)).foldl (sStep s S) ([], []) = sStep s S (((GlaLead.leads S).take m).foldl (sStep s S) ([], [])) i := by
        rw [take_snoc hi, List.foldl_append]
        rfl
      have sl := sStep_len s S ((GlaLead.leads S).take m) ([], [])
      rw [List.length_take] at sl
      have sl : (((GlaLead.leads S).take m).foldl (sStep s S) ([], [])).2.length < 100000 := by
        simp only [List.length_nil] at sl
        omega
      generalize ((GlaLead.leads S).take m).foldl (sStep s S) ([], []) = st at hO nx sl
      refine s_when (et_B (ev_dnotin (ev_var rfl) (ev_var rfl) hO.dt)) (fun tb H5 e5 => ?_) (fun tb H5 e5 => ?_)
      · rw [kd_val, Bool.not_eq_true', decide_eq_false_iff_not, hO.mem] at tb
        have os : sStep s S st i = (st.1 ++ (GlaLead.stripOf s S i).map (fun y => y.2), st.2 ++ [GlaLead.stripOf s S i]) := by
          unfold sStep
          rw [if_neg tb]
        have hO := hO.mono e5
        refine q_callN (ea_cons (ev_var rfl) (ea_cons (ev_var rfl) (ea_cons (ev_var rfl) ea_nil))) fun H6 e6 => ⟨a, j, sz, S, s, i, rfl, hD0.mono (e12.trans (hO.mono e6).ex), hP, hJ.mono (hO.mono e6).ex, il, fun t H7 e7 ht => ?_⟩
        have hO6 := hO.mono e6
        obtain ⟨p', q', n1, n2, z1, z2, z3⟩ := ht
        have np' : p' ≠ p := (ne_of_none hO6.pl n1).symm
        have nq' : q' ≠ p := (ne_of_none hO6.pl n2).symm
        have hO := hO6.mono e7
        have sub : ∀ x ∈ (GlaLead.stripOf s S i).map (fun y => y.2), x ∈ GlaLead.leads S := fun x hx => ((strip_mem hP il).mp hx).lead hP
        have wl : ((GlaLead.stripOf s S i).map fun x => x.2).length = (nv ((GlaLead.stripOf s S i).map fun x => x.2)).length := (List.length_map _).symm
        refine q_forL (xs := nv ((GlaLead.stripOf s S i).map fun x => x.2)) (a := p') (ev_op (ev_var rfl) ev_c (rv_ixT (st_of z1) (at_of (j := 0) rfl rfl))) (sq_of z2)
          (fun k σ' H' => (∃ ks, SS S H2 H' d p es ks (st.1 ++ ((GlaLead.stripOf s S i).map fun x => x.2).take k, st.2)) ∧ (H' t = some (.tup [.ref p', .ref q']) ∧ H' p' = some (.lst (nv ((GlaLead.stripOf s S i).map fun x => x.2))) ∧ H' q' = some (.lst (nv (GlaLead.rowPts S (GlaLead.stripOf s S i))))) ∧
            ∃ v9, σ' = [some (.ref a), some (.int (s.a : Int)), some (.int (s.b : Int)), some (.ref l), some (.ref j), some (.ref d), some (.ref p), some (.int (i : Int)), some (.ref t), v9])
          (fun H8 e8 => ⟨⟨ks, by rw [List.take_zero, List.append_nil]; exact hO.mono e8⟩, ⟨e8 _ _ z1, e8 _ _ z2, e8 _ _ z3⟩, _, rfl⟩) (fun k σ' H' _ q => sq_of q.2.1.2.1) ?_ ?_
        · rintro k y σ' H8 hk ⟨⟨ks, hO⟩, ⟨z1, z2, z3⟩, v9, rfl⟩
          rw [List.getElem?_map] at hk
          obtain ⟨o, ho, rfl⟩ := Option.map_eq_some_iff.mp hk
          have ol := sub o (List.mem_of_getElem? ho)
          have kl : (kd ks).length < sizeLine := by
            unfold kd
            rw [List.length_map]
            have := hO.len
            exact sz_lt (by omega)
          refine x_dput ev_c (ev_var rfl) (ev_var rfl) hO.dt kl fun H9 e9 => ?_
          rw [kd_putN]
          have hO9 := hO.mono e9
          have ndd : ∀ {b : Addr} {u : HO}, H9 b = some u → (∀ ks, u ≠ .dK ks) → b ≠ d := by
            intro b u hb no z
            rw [z, hO9.dt] at hb
            exact no _ (Option.some.inj hb).symm
          refine ⟨⟨kAddN ks o, ?_⟩, ⟨?_, ?_, ?_⟩, _, rfl⟩
          · have := hO9.put ol
            rw [take_snoc ho, ← List.append_assoc]
            exact this
          · rw [upd_ne (ndd (e9 _ _ z1) (by intro k z; cases z))]
            exact e9 _ _ z1
          · rw [upd_ne (ndd (e9 _ _ z2) (by intro k z; cases z))]
            exact e9 _ _ z2
          · rw [upd_ne (ndd (e9 _ _ z3) (by intro k z; cases z))]
            exact e9 _ _ z3
        · rintro σ' H8 ⟨⟨ks, hO⟩, ⟨z1, z2, z3⟩, v9, rfl⟩
          rw [← wl, List.take_length] at hO
          refine s_app hO.pl (ev_var rfl) (ev_var rfl) (by rw [List.length_map, hO.el]; exact sl) fun H9 e9 => ?_
          refine ⟨⟨es ++ [t], ks, ?_⟩, _, _, _, rfl⟩
          rw [nx, os]
          exact (hO.mono e9).app ⟨np', nq'⟩ (e9 _ _ z1) (e9 _ _ z2) (e9 _ _ z3)
      · rw [kd_val, Bool.not_eq_false', decide_eq_true_iff, hO.mem] at tb
        refine ⟨⟨es, ks, ?_⟩, _, _, _, rfl⟩
        rw [nx]
        unfold sStep
        rw [if_pos tb]
        exact hO.mono e5
    · rintro σ' H' ⟨⟨es, ks, hO⟩, v7, v8, v9, rfl⟩
      rw [ln, List.take_length] at hO
      refine s_ret (ev_var rfl) fun H4 e4 => ?_
      have hO := hO.mono e4
      have se := strips_eq (s := s) hP
      refine k p H4 (fresh_back e12 hO.pn) (e12.trans hO.ex) ⟨es, hO.pl, by rw [hO.el, se], fun i t w h1 h2 => ?_⟩
      obtain ⟨p', q', _, z⟩ := hO.at_ i t w h1 (by rw [se]; exact h2)
      exact ⟨p', q', z⟩
end
end Lead
namespace Lead
open PySem PySem.Spec PyProof.Rows L2 Evl LeadT
open GlaPlan
/-! ### the shop -/
theorem shop_ok (s : GlaLead.LeadShop) : s.ok = (decide (s.a ≤ 1000) && ((decide (1 ≤ s.b) && decide (s.b ≤ 1000)) && ((decide (1 ≤ s.bar) && decide (s.bar ≤ 16777215)) && (decide (s.joint ≤ 65535) && decide (s.loss ≤ 65535))))) := rfl
section
variable {P : Program} {w : World} {K : PySem.W.Frag} {mg : Str → Option Value} {base : Heap}
variable {H : Hp} {σ : L2.St} {ta te : TE}
theorem s_retCat {D : Ends} {ta tb : TE} {l : Addr} {xs zs : List V} (h : EvL ta σ H xs) (hb : Ev tb σ H (.ref l)) (hl : H l = some (.lst zs)) (hz : xs.length + zs.length ≤ 100000) (k : ∀ q H', H q = none → Ex H H' → H' q = some (.lst (xs ++ zs)) → D.rt (.ref q) H') : tRet (tOp rCat ta tb) D σ H :=
  h H (Ex.refl H) _ fun p H1 np e1 h1 => hb H1 e1 _ fun H2 e2 => ⟨p, l, xs, zs, rfl, rfl, e2 _ _ h1, (e1.trans e2) _ _ hl, sz_of hz, fun q nq => k q _ (fresh_back (e1.trans e2) nq) ((e1.trans e2).trans (Ex.new nq)) upd_same⟩
def spShop : Sp := fun vs H Q _ => ∃ s : GlaLead.LeadShop, vs = [.int (s.a : Int), .int (s.b : Int), .int (s.bar : Int), .int (s.joint : Int), .int (s.loss : Int)] ∧ RetV (.bl s.ok) H Q
theorem ok_is_shop (T : Txt K mg) : FnOk P w K mg base CX0 1 T.is_shop.f T.is_shop.fd ["a", "b", "bar", "joint", "loss"] spShop := by
  refine T.is_shop.F.ok sc_is_shop (fun vs H Q E h => ?_) (fun cdv A outer s H vs Q E hr h => ?_)
  · obtain ⟨s, rfl, _⟩ := h
    rfl
  · refine ⟨_, (pss_cons (ps_if (PW.pt (pw_or (pt_cmpR op_gt (pv 0) (pe_glob (v := .int (1000)) rfl T.c_MOST_BEND.choose_spec ⟨_, rfl⟩) (nomark _)) (pw_or (pt_not (pt_chain op_le op_le pe_int (pv 1) (pe_glob (v := .int (1000)) rfl T.c_MOST_BEND.choose_spec ⟨_, rfl⟩))) (pw_or1 (pt_not (pt_chain op_le op_le pe_int (pv 2) (pe_glob (v := .int (16777215)) rfl T.c_MOST_BAR.choose_spec ⟨_, rfl⟩))))))) (pss_one (ps_ret pe_bl)) pss_nil)
    (pss_one (ps_ret (pe_and (pe_cmpR op_le (pv 3) (pe_glob (v := .int (65535)) rfl T.c_MOST_LOSS.choose_spec ⟨_, rfl⟩) (nomark _)) (pe_one (pe_cmpR op_le (pv 4) (pe_glob (v := .int (65535)) rfl T.c_MOST_LOSS.choose_spec ⟨_, rfl⟩) (nomark _))))))), ?_⟩
    obtain ⟨s, rfl, k⟩ := h
    refine q_when (et_or (et_test (ev_op (ev_var rfl) (ev_c (v := .int 1000)) rv_I0)) fun _ => et_or (et_not (et_test (ev_chain (ev_c (v := .int 1)) (ev_var rfl) rv_I0 (fun _ => ev_c (v := .int 1000)) (fun _ => rv_I0)))) fun _ => et_not (et_test (ev_chain (ev_c (v := .int 1)) (ev_var rfl) rv_I0 (fun _ => ev_c (v := .int 16777215)) (fun _ => rv_I0)))) (fun tb H1 e1 => ?_) (fun tb H1 e1 => ?_)
    · have : s.ok = false := by
        rw [shop_ok, Bool.eq_false_iff]
        intro z
        simp only [Bool.and_eq_true, decide_eq_true_eq] at z
        simp only [Bool.or_eq_true, Bool.not_eq_true', Bool.and_eq_false_iff, decide_eq_true_eq, decide_eq_false_iff_not] at tb
        omega
      rw [this] at k
      exact s_ret ev_c fun H2 e2 => k H2 (e1.trans e2)
    · refine s_ret (ev_is (ev_andV (ev_op (ev_var rfl) (ev_c (v := .int 65535)) rv_I0) fun _ => ev_op (ev_var rfl) (ev_c (v := .int 65535)) rv_I0) ?_) fun H2 e2 => k H2 (e1.trans e2)
      congr 1
      rw [shop_ok, Bool.eq_iff_iff]
      simp only [Bool.or_eq_false_iff, Bool.not_eq_false', Bool.and_eq_true, decide_eq_true_eq, decide_eq_false_iff_not] at tb ⊢
      omega
theorem spv_shop {s : GlaLead.LeadShop} : SpV spShop [.int (s.a : Int), .int (s.b : Int), .int (s.bar : Int), .int (s.joint : Int), .int (s.loss : Int)] H (.bl s.ok) := fun H1 e Q q E => ⟨s, rfl, q⟩
/-- what is refused of a shop and a cartoon, or the plan -/
def openF (good : Bool) (b : List UInt8) : Except (List Int) Plan := if good = false then .error [-1] else if LeadSpec.BYTES < b.length then .error [-6] else match judgePlan b with
  | .error f => .error [-5, (f.rule : Int), (f.place : Int)]
  | .ok S => .ok S
def spOpened (K : PySem.W.Frag) (C : Addr) : Sp := fun vs H Q _ => ∃ (c : Addr) (good : Bool) (b : List UInt8), vs = [.bl good, .ref c] ∧ SqL K H c (bz b) ∧
  (∀ l, openF good b = .error l → l ≠ [] → ∀ t r H', H r = none → Ex H H' → H' t = some (.tup [.ref r, .non]) → H' r = some (.lst (l.map V.int)) → Q (.ref t) H') ∧
  (∀ S, openF good b = .ok S → Pre10 S → S = parts b → ∀ t r a H', Ex H H' → H' t = some (.tup [.ref r, .ref a]) → H' r = some (.lst []) → Dw K C H' a b.length S → Q (.ref t) H')
theorem ok_opened (T : Txt K mg) : FnOk P w K mg base CX0 10 T.opened.f T.opened.fd ["good", "cartoon"] (spOpened K T.Drawing.C) := by
  refine T.opened.F.ok sc_opened (fun vs H Q E h => ?_) (fun cdv A outer s H vs Q E hr h => ?_)
  · obtain ⟨c, good, b, rfl, _⟩ := h
    rfl
  · refine ⟨_, (pss_cons (ps_if (pt_not (pt_val (pv 0))) (pss_one (ps_ret (pe_tup (pa_cons (pe_lst (pa_cons (pe_glob (v := .int (-1)) rfl T.c_NO_SHOP.choose_spec ⟨_, rfl⟩) pa_nil)) (pa_cons pe_non pa_nil))))) pss_nil)
    (pss_cons (ps_if (pt_cmpR op_gt (pe_callB call_len_seq (by rfl) T.n_len PySem.boot_len (pa_cons (pv 1) pa_nil)) (pe_glob (v := .int (131072)) rfl T.c_MOST_BYTES.choose_spec ⟨_, rfl⟩) (nomark _)) (pss_one (ps_ret (pe_tup (pa_cons (pe_lst (pa_cons (pe_glob (v := .int (-6)) rfl T.c_TOO_MANY_BYTES.choose_spec ⟨_, rfl⟩) pa_nil)) (pa_cons pe_non pa_nil))))) pss_nil)
    (pss_cons (ps_try_as (i := 3) (tb := fun W => tAsg (tCallS (spCart K T.Drawing.C T.x_NoCartoon.C) (WE W) (tCons (tVar 1) tNil)) (gName 2)) (ts := (fun a cls d => tRet (tTup (tCons (tLst (tCons (tC (.int (-5))) (tCons (tXf a cls d T.x_NoCartoon.C "rule" (tVar 3)) (tCons (tXf a cls d T.x_NoCartoon.C "place" (tVar 3)) tNil)))) (tCons (tC .non) tNil))))) (Wout := fun _ _ _ _ => False) rfl rfl sc_opened.nd rfl rfl ⟨rfl, by decide, Or.inl T.x_NoCartoon.g⟩ takes0
      (fun W pn xe tk _ => pss_one (ps_set (i := 2) sc_opened.nd rfl (Or.inl rfl) (by exact (pe_callS (ok_cartoon_of T) (hr.mono (by decide)) rfl T.cartoon_of.g T.cartoon_of.F.kp T.cartoon_of.b (fun σ => passAt tk σ) (by exact (pa_cons (pv 1) pa_nil))))))
      (fun a oe cls d pn hz hf => pss_one (ps_ret (by exact (pe_tup (pa_cons (pe_lst (pa_cons (pe_glob (v := .int (-5)) rfl T.c_NO_CARTOON.choose_spec ⟨_, rfl⟩) (pa_cons (pe_xf T.x_NoCartoon.xf T.no_rule hz hf (pv 3)) (pa_cons (pe_xf T.x_NoCartoon.xf T.no_place hz hf (pv 3)) pa_nil)))) (pa_cons pe_non pa_nil)))))))
    (pss_one (ps_ret (pe_tup (pa_cons (pe_lst pa_nil) (pa_cons (pv 2) pa_nil)))))))), ?_⟩
    obtain ⟨c, good, b, rfl, hc, kE, kO⟩ := h
    have bl : (bz b).length = b.length := by unfold bz; rw [List.length_map]
    have two : ∀ x y : V, [x, y].length ≤ 100000 := fun _ _ => by show 2 ≤ 100000; decide
    unfold openF at kE kO
    refine q_when (et_not (et_B (ev_var rfl))) (fun tb H1 e1 => ?_) (fun tb H1 e1 => ?_)
    · have g : good = false := by simpa using tb
      rw [if_pos g] at kE
      refine ⟨(by show 1 ≤ sizeLine; decide), fun r nr => ⟨(by show 2 ≤ sizeLine; decide), fun t nt => ?_⟩⟩
      have x1 : Ex H1 (upd H1 r (.lst [.int (-1)])) := Ex.new nr
      have x2 := x1.trans (Ex.new (o := .tup [.ref r, .non]) nt)
      exact kE [-1] rfl (by simp) t r _ (fresh_back e1 nr) (e1.trans x2) upd_same ((Ex.new (o := .tup [.ref r, .non]) nt) _ _ upd_same)
    have g : ¬ good = false := by simpa using tb
    rw [if_neg g] at kE kO
    refine q_when (et_test (ev_op (ev_lenL (ev_var rfl) (ex_l e1 hc)) (ev_c (v := .int 131072)) rv_I0)) (fun tb H2 e2 => ?_) (fun tb H2 e2 => ?_)
    · rw [bl] at tb
      have tb := of_decide_eq_true tb
      rw [if_pos (show LeadSpec.BYTES < b.length by show 131072 < b.length; omega)] at kE
      refine ⟨(by show 1 ≤ sizeLine; decide), fun r nr => ⟨(by show 2 ≤ sizeLine; decide), fun t nt => ?_⟩⟩
      have x1 : Ex H2 (upd H2 r (.lst [.int (-6)])) := Ex.new nr
      have x2 := x1.trans (Ex.new (o := .tup [.ref r, .non]) nt)
      exact kE [-6] rfl (by simp) t r _ (fresh_back (e1.trans e2) nr) ((e1.trans e2).trans x2) upd_same ((Ex.new (o := .tup [.ref r, .non]) nt) _ _ upd_same)
    rw [bl] at tb
    have tb := of_decide_eq_false tb
    rw [if_neg (show ¬ LeadSpec.BYTES < b.length by show ¬ 131072 < b.length; omega)] at kE kO
    have e2 := e1.trans e2
    refine ⟨_, rfl, c, b, rfl, ex_l e2 hc, fun f hf d H3 e3 nd hd => ?_, fun S hS P10 H3 a e3 na hD => ?_⟩
    · rw [hf] at kE
      refine ⟨true, T.x_NoCartoon.te, fun _ a0 na0 => ?_, fun q => Bool.noConfusion q⟩
      refine ⟨_, rfl, rfl, rfl, d, _, _, rfl, hd, rfl, ?_⟩
      refine ⟨_, rfl, rfl, rfl, d, _, _, rfl, hd, rfl, ?_⟩
      refine ⟨(by show 3 ≤ sizeLine; decide), fun r nr => ⟨(by show 2 ≤ sizeLine; decide), fun t nt => ?_⟩⟩
      have x1 : Ex H3 (upd H3 r (.lst [.int (-5), .int (f.rule : Int), .int (f.place : Int)])) := Ex.new nr
      have x2 := x1.trans (Ex.new (o := .tup [.ref r, .non]) nt)
      exact kE [-5, (f.rule : Int), (f.place : Int)] rfl (by simp) t r _ (fresh_back (e2.trans e3) nr) ((e2.trans e3).trans x2) upd_same ((Ex.new (o := .tup [.ref r, .non]) nt) _ _ upd_same)
    · have hp : S = parts b := by
        rw [judge_pre] at hS
        split at hS
        · cases hS
        · split at hS
          · cases hS
          · cases hS
            rfl
      rw [hS] at kO
      refine ⟨(by show 0 ≤ sizeLine; decide), fun r nr => ⟨_, rfl, (by show 2 ≤ sizeLine; decide), fun t nt => ?_⟩⟩
      have x1 : Ex H3 (upd H3 r (.lst [])) := Ex.new nr
      have x2 := x1.trans (Ex.new (o := .tup [.ref r, .ref a]) nt)
      exact kO S rfl P10 hp t r a _ ((e2.trans e3).trans x2) upd_same ((Ex.new (o := .tup [.ref r, .ref a]) nt) _ _ upd_same) (hD.mono x2)
end
end Lead
namespace Lead
open PySem PySem.Spec PyProof.Rows L2 Evl LeadT
open GlaPlan
/-! ### how long the strips are together -/
theorem strip_nodup {s : GlaLead.LeadShop} {S : Plan} (O : Pre10 S) {i : Nat} (h : i ∈ GlaLead.leads S) : ((GlaLead.stripOf s S i).map fun x => x.2).Nodup := by
  obtain ⟨e, ve, re, eq, _⟩ := strip_is (s := s) O h
  obtain ⟨m, _, R, hw⟩ := way_run (s := s) O ve
  have hw : way s S e = (List.range m).map (dk s S e) := hw
  rw [eq, hw, List.map_map]
  exact leads_distinct O ve (fun k hk => ⟨_, R.on k hk⟩) R.new
theorem strips_nodup {s : GlaLead.LeadShop} {S : Plan} (O : Pre10 S) : ∀ l : List Nat, l.Nodup → (∀ i ∈ l, i ∈ GlaLead.leads S ∧ isLst s S i = true) → (l.flatMap fun i => (GlaLead.stripOf s S i).map fun x => x.2).Nodup
  | [], _, _ => List.nodup_nil
  | i :: l, nd, h => by
    obtain ⟨n1, n2⟩ := List.nodup_cons.mp nd
    obtain ⟨i1, i2⟩ := h i (by simp)
    rw [List.flatMap_cons, List.nodup_append]
    refine ⟨strip_nodup O i1, strips_nodup O l n2 fun j hj => h j (by simp [hj]), fun x hx y hy => ?_⟩
    rintro rfl
    obtain ⟨j, hj, hy⟩ := List.mem_flatMap.mp hy
    obtain ⟨j1, j2⟩ := h j (by simp [hj])
    have r1 := (strip_mem O i1).mp hx
    have r2 := (strip_mem O j1).mp hy
    have rij := r1.tr O (r2.sy O)
    have le : ∀ {a b : Nat}, a ∈ GlaLead.leads S → isLst s S a = true → Rel s S a b → a ≤ b := by
      intro a b ha hl r
      unfold isLst at hl
      rw [List.all_eq_true] at hl
      obtain ⟨y, hy, e⟩ := List.mem_map.mp ((strip_mem O ha).mpr r)
      have := of_decide_eq_true (hl y hy)
      omega
    have q1 := le i1 i2 rij
    have q2 := le j1 j2 (rij.sy O)
    have : i = j := by omega
    subst this
    exact n1 hj
theorem strips_sum {s : GlaLead.LeadShop} {S : Plan} (O : Pre10 S) : ((GlaLead.strips s S).flatMap fun w => w.map fun x => x.2).length ≤ S.lines.length := by
  have nd := strips_nodup (s := s) O ((GlaLead.leads S).filter (isLst s S)) (List.nodup_iff_pairwise_ne.mpr (List.Pairwise.filter _ (List.nodup_iff_pairwise_ne.mp (nodup_asc (leads_asc S))))) (fun i hi => List.mem_filter.mp hi)
  have e : ((GlaLead.strips s S).flatMap fun w => w.map fun x => x.2) = ((GlaLead.leads S).filter (isLst s S)).flatMap fun i => (GlaLead.stripOf s S i).map fun x => x.2 := by
    unfold GlaLead.strips
    rw [List.flatMap_map]
    rfl
  rw [e]
  refine Nat.le_trans (nodup_len nd (w := GlaLead.leads S) fun a ha => ?_) (leads_len S)
  obtain ⟨i, hi, ha⟩ := List.mem_flatMap.mp ha
  exact ((strip_mem O (List.mem_filter.mp hi).1).mp ha).lead O
theorem strips_many {s : GlaLead.LeadShop} {S : Plan} : (GlaLead.strips s S).length ≤ S.lines.length := by
  unfold GlaLead.strips
  rw [List.length_map]
  exact Nat.le_trans (List.length_filter_le _ _) (leads_len S)
theorem rowPts_len (S : Plan) (w : List Dart) : (GlaLead.rowPts S w).length ≤ w.length + 1 := by
  unfold GlaLead.rowPts
  rw [List.length_append, List.length_map]
  cases w.getLast? with
  | none => exact Nat.le_succ _
  | some x => exact Nat.le_refl _
/-- the strips, told -/
def rowV (S : Plan) (w : List Dart) : List V := .int ((GlaLead.rowPts S w).length : Int) :: nv (GlaLead.rowPts S w)
theorem rowV_len (S : Plan) : ∀ ws : List (List Dart), (ws.flatMap (rowV S)).length ≤ (ws.flatMap fun w => w.map fun x => x.2).length + 2 * ws.length
  | [] => Nat.le_refl _
  | w :: ws => by
    have h1 := rowV_len S ws
    have h2 := rowPts_len S w
    rw [List.flatMap_cons, List.flatMap_cons, List.length_append, List.length_append]
    simp only [rowV, List.length_cons, List.length_map] at h1 ⊢
    omega
theorem flat_take (f : List Dart → List V) : ∀ (ws : List (List Dart)) (i : Nat), ((ws.take i).flatMap f).length ≤ (ws.flatMap f).length
  | [], i => by simp
  | w :: ws, 0 => by simp
  | w :: ws, i + 1 => by
    have := flat_take f ws i
    rw [List.take_succ_cons, List.flatMap_cons, List.flatMap_cons, List.length_append, List.length_append]
    omega
/-- what is answered -/
def ansS (s : GlaLead.LeadShop) (b : List UInt8) : List Int := match openF s.ok b with
  | .error l => l
  | .ok S => Neutral.told (.rows ((GlaLead.strips s S).map (GlaLead.rowPts S)))
theorem told_rows (s : GlaLead.LeadShop) (S : Plan) : (Neutral.told (.rows ((GlaLead.strips s S).map (GlaLead.rowPts S)))).map V.int = .int 0 :: .int ((GlaLead.strips s S).length : Int) :: (GlaLead.strips s S).flatMap (rowV S) := by
  unfold Neutral.told
  dsimp only
  rw [List.map_cons, List.map_cons, List.length_map, List.flatMap_map, List.map_flatMap]
  congr 2
  refine congrArg (fun f => List.flatMap f _) ?_
  funext w
  unfold Neutral.rowN Neutral.ints rowV
  rw [List.map_cons, List.length_map, iz_nv]
theorem nat_of (z : Nat) : Neutral.nat (z : Int) = some z := by
  unfold Neutral.nat
  rw [if_neg (by omega)]
  rfl
theorem bytes_of (b : List UInt8) : Neutral.bytes (b.map fun (c : UInt8) => ((c.toNat : Nat) : Int)) = some b := by
  unfold Neutral.bytes
  have h1 : NeutralIO.bytes (b.map fun (c : UInt8) => ((c.toNat : Nat) : Int)) = true := by
    unfold NeutralIO.bytes
    rw [List.all_eq_true]
    intro z hz
    obtain ⟨c, _, rfl⟩ := List.mem_map.mp hz
    have := c.toNat_lt
    simp
    omega
  rw [if_pos h1, List.map_map]
  congr 1
  refine (List.map_congr_left fun c _ => ?_).trans (List.map_id b)
  show UInt8.ofNat ((c.toNat : Int).toNat) = c
  simp
theorem answer_open (s : GlaLead.LeadShop) (b : List UInt8) (f : Plan → LeadSpec.Answer) : (match (if s.ok = false then LeadSpec.BAD else LeadSpec.ofPlan b f) with | x => Neutral.told x) = match openF s.ok b with | .error l => l | .ok S => Neutral.told (f S) := by
  unfold openF LeadSpec.ofPlan
  by_cases c : s.ok = false
  · rw [if_pos c, if_pos c]
    rfl
  · rw [if_neg c, if_neg c]
    by_cases d : LeadSpec.BYTES < b.length
    · rw [if_pos d, if_pos d]
      rfl
    · rw [if_neg d, if_neg d]
      cases judgePlan b <;> rfl
theorem spec_strips (s : GlaLead.LeadShop) (b : List UInt8) : PyYqglca.strips s.a s.b s.bar s.joint s.loss (b.map fun (c : UInt8) => ((c.toNat : Nat) : Int)) = ansS s b := by
  have c : Neutral.callOf [[1, (s.a : Int), (s.b : Int), (s.bar : Int), (s.joint : Int), (s.loss : Int)], b.map fun (c : UInt8) => ((c.toNat : Nat) : Int)] = some (.strips b s) := by
    show (do some (LeadSpec.Call.strips (← Neutral.bytes (b.map fun (c : UInt8) => ((c.toNat : Nat) : Int))) (← Neutral.shop (s.a : Int) (s.b : Int) (s.bar : Int) (s.joint : Int) (s.loss : Int)))) = _
    unfold Neutral.shop
    rw [bytes_of, nat_of, nat_of, nat_of, nat_of, nat_of]
    rfl
  show (match Neutral.callOf [[1, (s.a : Int), (s.b : Int), (s.bar : Int), (s.joint : Int), (s.loss : Int)], b.map fun (c : UInt8) => ((c.toNat : Nat) : Int)] with
    | some x => Neutral.told (LeadSpec.answer x)
    | none => []) = _
  rw [c]
  exact answer_open s b fun S => .rows ((GlaLead.strips s S).map (GlaLead.rowPts S))
section
variable {P : Program} {w : World} {K : PySem.W.Frag} {mg : Str → Option Value} {base : Heap}
variable {H : Hp} {σ : L2.St}
/-- refused != [] -/
theorem et_refused {ta : TE} {a : Addr} {l : List Int} (ha : Ev ta σ H (.ref a)) (h : SqL K H a (l.map V.int)) : EvT (tTest (tOp (rNeD K) ta (tLst tNil))) σ H (!decide (l = [])) :=
  et_test (ev_opL ha (el_lst ea_nil (by show 0 ≤ 100000; decide)) fun b H1 hb e => rv_neInts (ms := []) (ex_l e h) (sq_of hb))
end
end Lead
namespace Lead
open PySem PySem.Spec PyProof.Rows L2 Evl LeadT
open GlaPlan
/-! ### the arguments -/
def byt (l : List Int) : List UInt8 := l.map fun z => UInt8.ofNat z.toNat
theorem byt_back {l : List Int} (h : ∀ z ∈ l, 0 ≤ z ∧ z ≤ 255) : (byt l).map (fun (c : UInt8) => ((c.toNat : Nat) : Int)) = l := by
  unfold byt
  rw [List.map_map]
  refine (List.map_congr_left fun z hz => ?_).trans (List.map_id l)
  have := h z hz
  show ((UInt8.ofNat z.toNat).toNat : Int) = z
  have e : (UInt8.ofNat z.toNat).toNat = z.toNat := by
    rw [UInt8.toNat_ofNat']
    omega
  rw [e]
  omega
theorem bz_byt {l : List Int} (h : ∀ z ∈ l, 0 ≤ z ∧ z ≤ 255) : bz (byt l) = l.map V.int := by
  have := congrArg (List.map V.int) (byt_back h)
  rw [← this]
  unfold bz
  rw [List.map_map]
  rfl
end Lead
namespace Lead
/-- the least number whose square is at least n -/
def IsRoot (n r : Int) : Prop := 0 ≤ r ∧ n ≤ r * r ∧ ∀ k, 0 ≤ k → k < r → k * k < n
theorem rootFrom_is : ∀ (k r n : Nat), r * r ≤ n → n < (r + 2 ^ k) * (r + 2 ^ k) → GlaCut.rootFrom k r n * GlaCut.rootFrom k r n ≤ n ∧ n < (GlaCut.rootFrom k r n + 1) * (GlaCut.rootFrom k r n + 1)
  | 0, r, n, h1, h2 => ⟨h1, h2⟩
  | k + 1, r, n, h1, h2 => by
    unfold GlaCut.rootFrom
    by_cases c : (r + 2 ^ k) * (r + 2 ^ k) ≤ n
    · rw [if_pos c]
      refine rootFrom_is k (r + 2 ^ k) n c ?_
      have e : r + 2 ^ (k + 1) = r + 2 ^ k + 2 ^ k := by rw [Nat.pow_succ]; omega
      rw [← e]
      exact h2
    · rw [if_neg c]
      exact rootFrom_is k r n h1 (by omega)
theorem isRoot_up {n s : Nat} (h1 : s * s ≤ n) (h2 : n < (s + 1) * (s + 1)) : IsRoot (n : Int) ((if s * s = n then s else s + 1 : Nat) : Int) := by
  by_cases c : s * s = n
  · rw [if_pos c]
    refine ⟨by omega, by rw [← c]; simp, fun k k0 k1 => ?_⟩
    have : k * k < (s : Int) * s := Int.mul_lt_mul' (by omega) k1 k0 (by omega)
    rw [← c]
    simpa using this
  · rw [if_neg c]
    refine ⟨by omega, ?_, fun k k0 k1 => ?_⟩
    · have : ((n : Nat) : Int) ≤ (((s + 1) * (s + 1) : Nat) : Int) := by omega
      simpa using this
    · have : k * k ≤ (s : Int) * s := Int.mul_le_mul (by omega) (by omega) k0 (by omega)
      have e : ((s * s : Nat) : Int) = (s : Int) * s := by simp
      omega
theorem isRoot_rootUp {n : Nat} (h : n < 2 ^ 48) : IsRoot (n : Int) (GlaCut.rootUp n : Int) := by
  have z := rootFrom_is 24 0 n (by omega) (by omega)
  exact isRoot_up z.1 z.2
theorem isRoot_inj {n a b : Int} (ha : IsRoot n a) (hb : IsRoot n b) : a = b := by
  obtain ⟨a0, a1, a2⟩ := ha
  obtain ⟨b0, b1, b2⟩ := hb
  rcases Int.lt_trichotomy a b with h | h | h
  · have := b2 a a0 h
    omega
  · exact h
  · have := a2 b b0 h
    omega
end Lead
namespace Lead
open PySem PySem.Spec PyProof.Rows L2 Evl LeadT
open GlaPlan
section
variable {P : Program} {w : World} {K : PySem.W.Frag} {mg : Str → Option Value} {base : Heap}
def spRootOf : Sp := fun vs H Q _ => ∃ n r : Int, vs = [.int n] ∧ 0 ≤ n ∧ n < 2 ^ 64 ∧ IsRoot n r ∧ RetV (.int r) H Q
theorem ok_root_of (T : Txt K mg) : FnOk P w K mg base CX0 1 T.root_of.f T.root_of.fd ["number"] spRootOf := by
  refine T.root_of.F.ok sc_root_of (fun vs H Q E h => ?_) (fun cdv A outer s H vs Q E hr h => ?_)
  · obtain ⟨n, r, rfl, _⟩ := h
    rfl
  · refine ⟨_, (pss_cons (ps_set (i := 1) sc_root_of.nd rfl (.inl rfl) pe_int)
    (pss_cons (ps_set (i := 2) sc_root_of.nd rfl (.inl rfl) pe_int)
    (pss_cons (ps_while PassesOwn.never (pt_cmpR op_lt (pe_op op_mulW (pv 2) (pv 2)) (pv 0) (nomark _)) (pss_one (ps_set (i := 2) sc_root_of.nd rfl (.inl rfl) (pe_op op_mulW pe_int (pv 2)))))
    (pss_cons (ps_while PassesOwn.never (pt_cmpR op_lt (pv 1) (pv 2) (nomark _)) (pss_cons (ps_set (i := 3) sc_root_of.nd rfl (.inl rfl) (pe_op op_fdiv (pe_op op_add (pv 1) (pv 2)) pe_int))
    (pss_one (ps_if (pt_cmpR op_ge (pe_op op_mulW (pv 3) (pv 3)) (pv 0) (nomark _)) (pss_one (ps_set (i := 2) sc_root_of.nd rfl (.inl rfl) (pv 3))) (pss_one (ps_set (i := 1) sc_root_of.nd rfl (.inl rfl) (pe_op op_add (pv 3) pe_int)))))))
    (pss_one (ps_ret (pv 1))))))), ?_⟩
    obtain ⟨n, r, rfl, h0, h64, hr', k⟩ := h
    refine q_asg ev_c fun H1 e1 => ?_
    refine q_asg ev_c fun H2 e2 => ?_
    refine q_while (fun f σ' H' => Ex H H' ∧ ∃ h : Int, σ' = [some (.int n), some (.int 0), some (.int h), none] ∧ 1 ≤ h ∧ h ≤ 2 ^ 33 ∧ (2 ^ 33 - h).toNat = f) _ ⟨e1.trans e2, 1, rfl, by decide, by decide, rfl⟩ ?_
    rintro f σ' H' ⟨e, h, rfl, h1, h2, hf⟩
    have w1 : CMulW h h := wide_mul (a := 40) (b := 40) (by omega) (by omega) (by decide) (by decide) (by decide)
    have w2 : CMulW 2 h := wide_mul (a := 40) (b := 40) (by omega) (by omega) (by decide) (by decide) (by decide)
    refine ⟨_, et_test (ev_op (ev_op (ev_var rfl) (ev_var rfl) (rv_I w1)) (ev_var rfl) rv_I0), fun tb H3 e3 => ?_, fun tb H3 e3 => ?_⟩
    · have c : h * h < n := of_decide_eq_true tb
      have h3 : h < 2 ^ 32 := by
        false_or_by_contra
        have : (2 ^ 32 : Int) * 2 ^ 32 ≤ h * h := Int.mul_le_mul (by omega) (by omega) (by decide) (by omega)
        omega
      refine ⟨_, fun σ2 H4 hh => ⟨(2 ^ 33 - 2 * h).toNat, ?_, hh⟩, ?_⟩
      · have : 0 < 2 ^ 33 - h := by omega
        omega
      · exact s_asg (ev_op ev_c (ev_var rfl) (rv_I w2)) fun H4 e4 => ⟨(e.trans e3).trans e4, 2 * h, rfl, by omega, by omega, rfl⟩
    · have c : ¬ h * h < n := of_decide_eq_false tb
      have e := e.trans e3
      refine q_while (fun f σ' H' => Ex H H' ∧ ∃ (lo hi : Int) (mi : Option V), σ' = [some (.int n), some (.int lo), some (.int hi), mi] ∧ 0 ≤ lo ∧ lo ≤ hi ∧ hi ≤ 2 ^ 33 ∧ n ≤ hi * hi ∧ (∀ k, 0 ≤ k → k < lo → k * k < n) ∧ (hi - lo).toNat = f) _ ⟨e, 0, h, none, rfl, by omega, by omega, h2, by omega, fun k a b => by omega, rfl⟩ ?_
      rintro f σ' H' ⟨e, lo, hi, mi, rfl, l0, l1, l2, l3, l4, hf⟩
      have w3 : CMulW ((lo + hi) / 2) ((lo + hi) / 2) := wide_mul (a := 40) (b := 40) (by omega) (by omega) (by decide) (by decide) (by decide)
      have w4 : CDiv (lo + hi) 2 := ⟨by decide, by decide⟩
      refine ⟨_, et_test (ev_op (ev_var rfl) (ev_var rfl) rv_I0), fun tb H4 e4 => ?_, fun tb H4 e4 => ?_⟩
      · have c2 : lo < hi := of_decide_eq_true tb
        have e := e.trans e4
        refine ⟨fun σ2 H5 => Ex H H5 ∧ ∃ (lo' hi' : Int) (mi : Option V), σ2 = [some (.int n), some (.int lo'), some (.int hi'), mi] ∧ 0 ≤ lo' ∧ lo' ≤ hi' ∧ hi' ≤ 2 ^ 33 ∧ n ≤ hi' * hi' ∧ (∀ k, 0 ≤ k → k < lo' → k * k < n) ∧ hi' - lo' < hi - lo, fun σ2 H5 ⟨x, lo', hi', mi, y1, y2, y3, y4, y5, y6, y7⟩ => ⟨(hi' - lo').toNat, by omega, x, lo', hi', mi, y1, y2, y3, y4, y5, y6, rfl⟩, ?_⟩
        refine q_asg (ev_op (ev_op (ev_var rfl) (ev_var rfl) rv_I0) ev_c (rv_I w4)) fun H5 e5 => ?_
        have e := e.trans e5
        refine s_if (et_test (ev_op (ev_op (ev_var rfl) (ev_var rfl) (rv_I w3)) (ev_var rfl) rv_I0)) (fun tb H6 e6 => ?_) (fun tb H6 e6 => ?_)
        · have c3 : n ≤ (lo + hi) / 2 * ((lo + hi) / 2) := of_decide_eq_true tb
          exact s_asg (ev_var rfl) fun H7 e7 => ⟨(e.trans e6).trans e7, lo, (lo + hi) / 2, _, rfl, by omega, by omega, by omega, c3, l4, by omega⟩
        · have c3 : ¬ n ≤ (lo + hi) / 2 * ((lo + hi) / 2) := of_decide_eq_false tb
          refine s_asg (ev_op (ev_var rfl) ev_c rv_I0) fun H7 e7 => ⟨(e.trans e6).trans e7, (lo + hi) / 2 + 1, hi, _, rfl, by omega, by omega, by omega, l3, fun q q0 q1 => ?_, by omega⟩
          have : q * q ≤ (lo + hi) / 2 * ((lo + hi) / 2) := Int.mul_le_mul (by omega) (by omega) q0 (by omega)
          omega
      · have c2 : ¬ lo < hi := of_decide_eq_false tb
        have e2 : lo = hi := by omega
        subst e2
        have : lo = r := isRoot_inj ⟨l0, l3, l4⟩ hr'
        subst this
        exact s_ret (ev_var rfl) fun H5 e5 => k H5 ((e.trans e4).trans e5)
theorem spv_root {H : Hp} {n r : Int} (h : 0 ≤ n) (h2 : n < 2 ^ 64) (hr : IsRoot n r) : SpV spRootOf [.int n] H (.int r) := fun H1 e Q q E => ⟨n, r, rfl, h, h2, hr, q⟩
def spDist (K : PySem.W.Frag) : Sp := fun vs H Q _ => ∃ (a b : Addr) (p q : Pt), vs = [.ref a, .ref b] ∧ P2 K H a (ptZ p) ∧ P2 K H b (ptZ q) ∧ (p.x ≤ 1048575 ∧ p.y ≤ 1048575 ∧ q.x ≤ 1048575 ∧ q.y ≤ 1048575) ∧ RetV (.int (GlaCut.long p q : Int)) H Q
theorem ok_distance (T : Txt K mg) : FnOk P w K mg base CX0 2 T.distance.f T.distance.fd ["p", "q"] (spDist K) := by
  refine T.distance.F.ok sc_distance (fun vs H Q E h => ?_) (fun cdv A outer s H vs Q E hr h => ?_)
  · obtain ⟨a, b, p, q, rfl, _⟩ := h
    rfl
  · refine ⟨_, (pss_cons (ps_set (i := 2) sc_distance.nd rfl (.inl rfl) (pe_op op_sub (pe_ix ix_tup (pv 1) pe_int (fun _ _ => rfl)) (pe_ix ix_tup (pv 0) pe_int (fun _ _ => rfl))))
    (pss_cons (ps_set (i := 3) sc_distance.nd rfl (.inl rfl) (pe_op op_sub (pe_ix ix_tup (pv 1) pe_int (fun _ _ => rfl)) (pe_ix ix_tup (pv 0) pe_int (fun _ _ => rfl))))
    (pss_one (ps_ret (pe_call (ok_root_of T) (hr.mono (by decide)) rfl T.root_of.g T.root_of.F.kp T.root_of.b .nil pass0 (pa_cons (pe_op op_add (pe_op op_mul (pv 2) (pv 2)) (pe_op op_mul (pv 3) (pv 3))) pa_nil)))))), ?_⟩
    obtain ⟨a, b, p, q, rfl, hp, hq, ⟨p1, p2, q1, q2⟩, k⟩ := h
    have x1 : (dx p q).natAbs ≤ 1048576 := by unfold dx; omega
    have x2 : (dy p q).natAbs ≤ 1048576 := by unfold dy; omega
    have m1 := mul_bd x1 x1
    have m2 := mul_bd x2 x2
    have n1 : 0 ≤ dx p q * dx p q := by
      rcases Int.le_total 0 (dx p q) with z | z
      · exact Int.mul_nonneg z z
      · have := Int.mul_nonneg (a := -(dx p q)) (b := -(dx p q)) (by omega) (by omega)
        grind
    have n2 : 0 ≤ dy p q * dy p q := by
      rcases Int.le_total 0 (dy p q) with z | z
      · exact Int.mul_nonneg z z
      · have := Int.mul_nonneg (a := -(dy p q)) (b := -(dy p q)) (by omega) (by omega)
        grind
    refine q_asg (v := .int (dx p q)) (ev_op (ev_p0 (ev_var rfl) hq) (ev_p0 (ev_var rfl) hp) rv_I0) fun H1 e1 => ?_
    refine q_asg (v := .int (dy p q)) (ev_op (ev_p1 (ev_var rfl) (hq.mono e1)) (ev_p1 (ev_var rfl) (hp.mono e1)) rv_I0) fun H2 e2 => ?_
    have rt : IsRoot (dx p q * dx p q + dy p q * dy p q) (GlaCut.long p q : Int) := by
      have := isRoot_rootUp (n := (dx p q * dx p q + dy p q * dy p q).toNat) (by omega)
      rw [Int.toNat_of_nonneg (by omega)] at this
      exact this
    exact s_ret (ev_call (ea_cons (ev_op (ev_op (ev_var rfl) (ev_var rfl) (rv_I (.inl ⟨by omega, by omega⟩))) (ev_op (ev_var rfl) (ev_var rfl) (rv_I (.inl ⟨by omega, by omega⟩))) rv_I0) ea_nil) (spv_root (by omega) (by omega) rt)) fun H3 e3 => k H3 ((e1.trans e2).trans e3)
theorem spv_dist {H : Hp} {a b : Addr} {p q : Pt} (hp : P2 K H a (ptZ p)) (hq : P2 K H b (ptZ q)) (h : p.x ≤ 1048575 ∧ p.y ≤ 1048575 ∧ q.x ≤ 1048575 ∧ q.y ≤ 1048575) : SpV (spDist K) [.ref a, .ref b] H (.int (GlaCut.long p q : Int)) := fun H1 e Q k E => ⟨a, b, p, q, rfl, hp.mono e, hq.mono e, h, k⟩
def spLen (K : PySem.W.Frag) (C : Addr) : Sp := fun vs H Q _ => ∃ (a : Addr) (sz : Nat) (S : Plan) (i : Nat), vs = [.ref a, .int (i : Int)] ∧ Dw K C H a sz S ∧ Pre5 S ∧ i < S.lines.length ∧ RetV (.int (GlaLead.leadLong S i : Int)) H Q
theorem ok_length_of (T : Txt K mg) : FnOk P w K mg base CX0 3 T.length_of.f T.length_of.fd ["drawing", "lead"] (spLen K T.Drawing.C) := by
  refine T.length_of.F.ok sc_length_of (fun vs H Q E h => ?_) (fun cdv A outer s H vs Q E hr h => ?_)
  · obtain ⟨a, sz, S, i, rfl, _⟩ := h
    rfl
  · refine ⟨_, (pss_cons (ps_asg (pe_ix ix_list (pe_fld (pv 0) rfl) (pv 1) (fun _ _ => rfl)) (pg_tup rfl (pgs_cons (pg_name (i := 2) sc_length_of.nd rfl (Or.inl rfl)) (pgs_cons (pg_name (i := 3) sc_length_of.nd rfl (Or.inl rfl)) pgs_nil))))
    (pss_one (ps_ret (pe_call (ok_distance T) (hr.mono (by decide)) rfl T.distance.g T.distance.F.kp T.distance.b .nil pass0 (pa_cons (pe_ix ix_list (pe_fld (pv 0) rfl) (pv 2) (fun _ _ => rfl)) (pa_cons (pe_ix ix_list (pe_fld (pv 0) rfl) (pv 3) (fun _ _ => rfl)) pa_nil)))))), ?_⟩
    obtain ⟨a, sz, S, i, rfl, hD, hP, hi, k⟩ := h
    obtain ⟨dx, c, l1, l2, l3, D⟩ := hD
    have cl := T.Drawing.cl
    have yl := hP.line_lt (line_mem hi)
    have g1 : (GlaLead.lineOf S i).1 < S.pts.length := by omega
    have g2 : (GlaLead.lineOf S i).2 < S.pts.length := by omega
    have b1 := hP.box g1
    have b2 := hP.box g2
    have bw := hP.w
    have bh := hP.h
    obtain ⟨u, hu, evu⟩ := ev_dln (σ := [some (.ref a), some (.int (i : Int)), none, none]) (ta := tVar 0) (tb := tVar 1) D cl T.Drawing.na_lines (ev_var rfl) (ev_var rfl) rfl hi
    refine q_unpack evu hu fun H1 e1 => ?_
    obtain ⟨p1, hp1, ev1⟩ := ev_dpt (σ := [some (.ref a), some (.int (i : Int)), some (.int ((GlaLead.lineOf S i).1 : Int)), some (.int ((GlaLead.lineOf S i).2 : Int))]) (ta := tVar 0) (tb := tVar 2) (D.mono e1) cl T.Drawing.na_points (ev_var rfl) (ev_var rfl) rfl g1
    obtain ⟨p2, hp2, ev2⟩ := ev_dpt (σ := [some (.ref a), some (.int (i : Int)), some (.int ((GlaLead.lineOf S i).1 : Int)), some (.int ((GlaLead.lineOf S i).2 : Int))]) (ta := tVar 0) (tb := tVar 3) (D.mono e1) cl T.Drawing.na_points (ev_var rfl) (ev_var rfl) rfl g2
    exact s_ret (ev_call (ea_cons ev1 (ea_cons ev2 ea_nil)) (spv_dist hp1 hp2 (by omega))) fun H2 e2 => k H2 (e1.trans e2)
theorem spv_len {C a : Addr} {H : Hp} {sz : Nat} {S : Plan} {i : Nat} (D : Dw K C H a sz S) (O : Pre5 S) (h : i < S.lines.length) : SpV (spLen K C) [.ref a, .int (i : Int)] H (.int (GlaLead.leadLong S i : Int)) := fun H1 e Q k E => ⟨a, sz, S, i, rfl, D.mono e, O, h, k⟩
end
end Lead
namespace Lead
open PySem PySem.Spec PyProof.Rows L2 Evl LeadT
open GlaPlan
section
variable {P : Program} {w : World} {K : PySem.W.Frag} {mg : Str → Option Value} {base : Heap}
def tlF (i : Int) : List (Str × V) := [("lead", .int i)]
def spTlInit (C : Addr) : Sp := fun vs H Q _ => ∃ (a : Addr) (i : Int), vs = [.ref a, .int i] ∧ H a = some (exo a C none) ∧
  ∀ (d : Addr) (H' : Hp), d ≠ a → H d = none → (∀ b, b ≠ a → b ≠ d → H' b = H b) → H' a = some (exo a C (some d)) → H' d = some (exd d (tlF i)) → Q .non H'
theorem ok_TooLong_init (T : Txt K mg) : FnOk P w K mg base CX0 1 T.x_TooLong.init.f T.x_TooLong.init.fd ["self", "lead"] (spTlInit T.x_TooLong.C) := by
  refine T.x_TooLong.init.F.ok sc_TooLong_init (fun vs H Q E h => ?_) (fun cdv A outer s H vs Q E hr h => ?_)
  · obtain ⟨a, i, rfl, _⟩ := h
    rfl
  · refine ⟨_, (pss_one (ps_ost (pv 0) (pv 1))), ?_⟩
    obtain ⟨a, i, rfl, ha, k⟩ := h
    refine ⟨_, rfl, _, rfl, a, T.x_TooLong.C, rfl, T.x_TooLong.ox, T.no_lead, .inl ⟨ha, fun d hd da => ?_⟩⟩
    refine k d _ da hd (fun b h1 h2 => ?_) upd_same ?_
    · rw [upd_ne h1, upd_ne h2]
    · rw [upd_ne da, upd_same]
      rfl
/-- where no lead is too long -/
def spTooL (K : PySem.W.Frag) (C CT : Addr) : Sp := fun vs H Q E => ∃ (a : Addr) (sz : Nat) (S : Plan) (s : GlaLead.LeadShop), vs = [.ref a, .int (s.bar : Int), .int (s.joint : Int)] ∧ Dw K C H a sz S ∧ Pre5 S ∧ (∀ i, GlaLead.tooLong s S = some i → ExcP CT (tlF (i : Int)) H E) ∧ (GlaLead.tooLong s S = none → RetV .non H Q)
theorem ok_check_lengths (T : Txt K mg) : FnOk P w K mg base (L2.CX P w) 4 T.check_lengths.f T.check_lengths.fd ["drawing", "bar", "joint"] (spTooL K T.Drawing.C T.x_TooLong.C) := by
  refine T.check_lengths.F.okX sc_check_lengths (fun vs H Q E h => ?_) (fun cdv A outer s H vs Q E hr h => ?_)
  · obtain ⟨a, sz, S, s, rfl, _⟩ := h
    rfl
  · refine ⟨_, (pss_one (ps_for (passes_of rfl) rfl (pi_list (pe_call (ok_leads_of T) (hr.mono (by decide)) rfl T.leads_of.g T.leads_of.F.kp T.leads_of.b .nil pass0 (pa_cons (pv 0) pa_nil))) (pg_name (i := 3) sc_check_lengths.nd rfl (Or.inl rfl)) (pss_one (ps_if (pt_cmpR op_gt (pe_op op_add (pe_call (ok_length_of T) (hr.mono (by decide)) rfl T.length_of.g T.length_of.F.kp T.length_of.b .nil pass0 (pa_cons (pv 0) (pa_cons (pv 3) pa_nil))) (pe_op op_mul pe_int (pv 2))) (pv 1) (nomark _)) (pss_one (ps_raise rfl (takes_of rfl rfl rfl rfl) (pmk_oex T.x_TooLong.ox T.x_TooLong.iC T.x_TooLong.tI (ok_TooLong_init T) (hr.mono (by decide)) T.x_TooLong.init.b .nil pass0 rfl T.x_TooLong.g (pa_cons (pv 3) pa_nil)))) pss_nil)))), ?_⟩
    obtain ⟨a, sz, S, s, rfl, hD, hP, kE, kO⟩ := h
    have ll := leads_len S
    have nl := hP.t.2.1
    have ln : (nv (GlaLead.leads S)).length = (GlaLead.leads S).length := List.length_map _
    refine s_forNL (xs := nv (GlaLead.leads S)) (el_call (ea_cons (ev_var rfl) ea_nil) (fun H1 e Q q E => ⟨a, sz, S, rfl, hD.mono e, hP, q⟩))
      (fun p i σ' H' => Ex H H' ∧ H' p = some (.lst (nv (GlaLead.leads S))) ∧ (∀ j x, j < i → (GlaLead.leads S)[j]? = some x → decide (s.bar < GlaLead.leadLong S x + 2 * s.joint) = false) ∧ ∃ v3, σ' = [some (.ref a), some (.int (s.bar : Int)), some (.int (s.joint : Int)), v3]) (fun p H1 np e1 h1 => ⟨e1, h1, fun j x hj => by omega, _, rfl⟩) (fun p i σ' H' _ q => sq_of q.2.1) ?_ ?_
    · rintro p i x σ' H' hi ⟨e, hp, hb, v3, rfl⟩
      rw [List.getElem?_map] at hi
      obtain ⟨y, hy, rfl⟩ := Option.map_eq_some_iff.mp hi
      have yl := leads_lt (List.mem_of_getElem? hy)
      dsimp only [gName, List.set]
      refine s_when (b := decide ((GlaLead.leadLong S y : Int) + 2 * (s.joint : Int) > (s.bar : Int))) (et_test (ev_op (z := .bl (decide ((GlaLead.leadLong S y : Int) + 2 * (s.joint : Int) > (s.bar : Int)))) (ev_op (ev_call (ea_cons (ev_var rfl) (ea_cons (ev_var rfl) ea_nil)) (spv_len (hD.mono e) hP yl)) (ev_op ev_c (ev_var rfl) (rv_I (show CMul 2 (s.joint : Int) from .inl ⟨by decide, by decide⟩))) rv_I0) (ev_var rfl) rv_I0)) (fun tb H1 e1 => ?_) (fun tb H1 e1 => ?_)
      · have tb := of_decide_eq_true tb
        have fd : GlaLead.tooLong s S = some y := by
          unfold GlaLead.tooLong
          obtain ⟨lt, ey⟩ := List.getElem?_eq_some_iff.mp hy
          rw [List.find?_eq_some_iff_getElem]
          refine ⟨by rw [decide_eq_true_iff]; omega, i, lt, ey, fun j hj => ?_⟩
          have := hb j _ hj (List.getElem?_eq_getElem (by omega))
          rw [this]
          rfl
        have e01 := e.trans e1
        refine ⟨_, rfl, (by show 1 ≤ 1000; decide), fun o ho => ?_⟩
        refine ⟨o, (y : Int), rfl, upd_same, fun d H2 da hd hk h1 h2 => ⟨rfl, d, _, h1, h2, ?_, ?_⟩⟩
        · rw [upd_ne da] at hd
          exact hd
        · rw [upd_ne da] at hd
          refine kE y fd d _ (fun b u q => ?_) (fresh_back e01 hd) upd_same
          have q1 := e01 b u q
          rw [upd_ne (ne_of_none q1 hd), del_ne (ne_of_none q1 ho), hk b (ne_of_none q1 ho) (ne_of_none q1 hd), upd_ne (ne_of_none q1 ho)]
          exact q1
      · have tb := of_decide_eq_false tb
        refine ⟨e.trans e1, e1 _ _ hp, fun j x hj hx => ?_, _, rfl⟩
        by_cases c : j < i
        · exact hb j x c hx
        · have : j = i := by omega
          subst this
          rw [hy] at hx
          have := Option.some.inj hx
          subst this
          rw [decide_eq_false_iff_not]
          omega
    · rintro p σ' H' ⟨e, hp, hb, v3, rfl⟩
      rw [ln] at hb
      refine kO ?_ H' e
      unfold GlaLead.tooLong
      rw [List.find?_eq_none]
      intro x hx
      obtain ⟨j, hj⟩ := List.getElem?_of_mem hx
      have := hb j x (List.getElem?_eq_some_iff.mp hj).1 hj
      rw [this]
      decide
end
end Lead
namespace Lead
open GlaPlan
/-! ### pieces: the row of a part of a way -/
/-- each dart begins where the one ahead ends -/
def Chn (S : Plan) : List Dart → Prop
  | [] => True
  | [_] => True
  | x :: y :: r => y.1 = GlaLead.other S x.2 x.1 ∧ Chn S (y :: r)
theorem chn_row {S : Plan} : ∀ (x : Dart) (r : List Dart), Chn S (x :: r) → GlaLead.rowPts S (x :: r) = x.1 :: (x :: r).map fun d => GlaLead.other S d.2 d.1
  | x, [], _ => rfl
  | x, y :: r, h => by
    have ih := chn_row y r h.2
    unfold GlaLead.rowPts at ih ⊢
    rw [List.getLast?_cons_cons, List.map_cons, List.cons_append, ih, List.map_cons (l := y :: r), h.1]
theorem way_chn {s : GlaLead.LeadShop} {S : Plan} {d : Dart} (O : Pre10 S) (h : VD S d) : Chn S (way s S d) := by
  obtain ⟨m, _, R, hw⟩ := way_run (s := s) O h
  have hw : way s S d = (List.range m).map (dk s S d) := hw
  have st : ∀ n, n + 1 < m → (dk s S d (n + 1)).1 = GlaLead.other S (dk s S d n).2 (dk s S d n).1 := by
    intro n hn
    have h1 := R.on n (by omega)
    have h2 := R.on (n + 1) hn
    have : (itn s S n d).bind (nxt s S) = some (dk s S d (n + 1)) := h2
    rw [h1] at this
    exact ((itn_VD O R.v h1).nx O this).2.2.1
  have key : ∀ n k, k + n ≤ m → Chn S ((List.range' k n).map (dk s S d)) := by
    intro n
    induction n with
    | zero => intro k _; trivial
    | succ n ih =>
      intro k hk
      cases n with
      | zero => trivial
      | succ n =>
        rw [List.range'_succ, List.map_cons]
        have := ih (k + 1) (by omega)
        rw [List.range'_succ, List.map_cons] at this ⊢
        exact ⟨st k (by omega), this⟩
  rw [hw, List.range_eq_range']
  exact key m 0 (by omega)
end Lead
namespace Lead
open GlaPlan
/-- the program's parting: pieces found, the piece begun -/
def pStep (s : GlaLead.LeadShop) (S : Plan) (st : List (List Dart) × List Dart) (x : Dart) : List (List Dart) × List Dart := if st.2 = [] ∨ GlaLead.wayLong S (st.2 ++ [x]) + 2 * s.joint ≤ s.bar then (st.1, st.2 ++ [x]) else (st.1 ++ [st.2], [x])
theorem parted_fold {s : GlaLead.LeadShop} {S : Plan} : ∀ (r had : List Dart) (found : List (List Dart)), found ++ GlaLead.parted s S had r = (r.foldl (pStep s S) (found, had)).1 ++ (if (r.foldl (pStep s S) (found, had)).2 = [] then [] else [(r.foldl (pStep s S) (found, had)).2])
  | [], had, found => by
    show found ++ (if had = [] then [] else [had]) = found ++ (if had = [] then [] else [had])
    rfl
  | x :: r, had, found => by
    have e : GlaLead.parted s S had (x :: r) = if had = [] ∨ GlaLead.wayLong S (had ++ [x]) + 2 * s.joint ≤ s.bar then GlaLead.parted s S (had ++ [x]) r else had :: GlaLead.parted s S [x] r := rfl
    rw [e, List.foldl_cons]
    by_cases c : had = [] ∨ GlaLead.wayLong S (had ++ [x]) + 2 * s.joint ≤ s.bar
    · have p : pStep s S (found, had) x = (found, had ++ [x]) := by
        unfold pStep
        rw [if_pos c]
      rw [if_pos c, p]
      exact parted_fold r (had ++ [x]) found
    · have p : pStep s S (found, had) x = (found ++ [had], [x]) := by
        unfold pStep
        rw [if_neg c]
      rw [if_neg c, p, ← parted_fold r [x] (found ++ [had])]
      simp
theorem sumOf_snoc (l : List Nat) (x : Nat) : GlaLead.sumOf (l ++ [x]) = GlaLead.sumOf l + x := by
  induction l with
  | nil => exact (Nat.add_comm x 0).trans rfl
  | cons y l ih =>
    have e1 : GlaLead.sumOf (y :: l ++ [x]) = y + GlaLead.sumOf (l ++ [x]) := rfl
    have e2 : GlaLead.sumOf (y :: l) = y + GlaLead.sumOf l := rfl
    rw [e1, e2, ih, Nat.add_assoc]
theorem wayLong_snoc (S : Plan) (l : List Dart) (x : Dart) : GlaLead.wayLong S (l ++ [x]) = GlaLead.wayLong S l + GlaLead.leadLong S x.2 := by
  unfold GlaLead.wayLong
  rw [List.map_append, List.map_singleton, sumOf_snoc]
end Lead
namespace Lead
open PySem PySem.Spec PyProof.Rows L2 Evl LeadT
open GlaPlan
/-- pieces found: each its length and its row; p: the list -/
structure PS (s : GlaLead.LeadShop) (S : Plan) (H0 H : Hp) (p : Addr) (ts : List Addr) (ls : List (List Dart)) : Prop where
  ex : Ex H0 H
  pn : H0 p = none
  pl : H p = some (.lst (ts.map V.ref))
  el : ts.length = ls.length
  at_ : ∀ (k : Nat) (t : Addr) (l : List Dart), ts[k]? = some t → ls[k]? = some l → ∃ q, (H0 q = none ∧ q ≠ p) ∧ H t = some (.tup [.int (GlaLead.pieceLong s S l : Int), .ref q]) ∧ H q = some (.lst (nv (GlaLead.rowPts S l)))
theorem PS.mono {s : GlaLead.LeadShop} {S : Plan} {H0 H H' : Hp} {p : Addr} {ts : List Addr} {ls : List (List Dart)} (h : PS s S H0 H p ts ls) (e : Ex H H') : PS s S H0 H' p ts ls := ⟨h.ex.trans e, h.pn, e _ _ h.pl, h.el, fun k t l a b => by
  obtain ⟨q, n, z1, z2⟩ := h.at_ k t l a b
  exact ⟨q, n, e _ _ z1, e _ _ z2⟩⟩
theorem PS.app {s : GlaLead.LeadShop} {S : Plan} {H0 H : Hp} {p : Addr} {ts : List Addr} {ls : List (List Dart)} (h : PS s S H0 H p ts ls) {t q : Addr} {l : List Dart} (n : H0 q = none ∧ q ≠ p) (z1 : H t = some (.tup [.int (GlaLead.pieceLong s S l : Int), .ref q])) (z2 : H q = some (.lst (nv (GlaLead.rowPts S l)))) : PS s S H0 (upd H p (.lst (ts.map V.ref ++ [.ref t]))) p (ts ++ [t]) (ls ++ [l]) := by
  have nt : ∀ {a : Addr} {xs : List V}, H a = some (.tup xs) → a ≠ p := by
    intro a xs ha z
    rw [z, h.pl] at ha
    cases ha
  refine ⟨Ex.mut h.ex h.pn, h.pn, by rw [upd_same, List.map_append]; rfl, by simp [h.el], fun k e r' a b => ?_⟩
  by_cases c : k < ts.length
  · rw [List.getElem?_append_left c] at a
    rw [List.getElem?_append_left (by rw [← h.el]; exact c)] at b
    obtain ⟨q', n', y1, y2⟩ := h.at_ k e r' a b
    exact ⟨q', n', by rw [upd_ne (nt y1)]; exact y1, by rw [upd_ne n'.2]; exact y2⟩
  · have lt := (List.getElem?_eq_some_iff.mp a).1
    rw [List.length_append] at lt
    have ek : k = ts.length := by simp at lt; omega
    rw [List.getElem?_append_right (by omega), ek, Nat.sub_self] at a
    rw [List.getElem?_append_right (by rw [← h.el]; omega), ek, h.el, Nat.sub_self] at b
    have a := Option.some.inj a
    have b := Option.some.inj b
    subst a b
    exact ⟨q, n, by rw [upd_ne (nt z1)]; exact z1, by rw [upd_ne n.2]; exact z2⟩
/-- the row begun -/
def rowB (S : Plan) (p0 : Nat) (had : List Dart) : List Nat := if had = [] then [p0] else GlaLead.rowPts S had
theorem rowB_snoc {S : Plan} {p0 : Nat} {had : List Dart} {x : Dart} (h : Chn S (had ++ [x])) (h0 : had = [] → p0 = x.1) : rowB S p0 (had ++ [x]) = rowB S p0 had ++ [GlaLead.other S x.2 x.1] := by
  cases had with
  | nil =>
    have := h0 rfl
    subst this
    rfl
  | cons y r =>
    unfold rowB
    rw [if_neg (by simp), if_neg (by simp)]
    have c2 : ∀ (y : Dart) (r : List Dart), Chn S (y :: r ++ [x]) → Chn S (y :: r) := by
      intro y r
      induction r generalizing y with
      | nil => intro _; trivial
      | cons z r ih => exact fun q => ⟨q.1, ih z q.2⟩
    rw [chn_row y r (c2 y r h), List.cons_append, chn_row y (r ++ [x]) h]
    simp
end Lead
namespace Lead
open PySem PySem.Spec PyProof.Rows L2 Evl LeadT
open GlaPlan
theorem chn_left {S : Plan} : ∀ (b c : List Dart), Chn S (b ++ c) → Chn S b
  | [], _, _ => trivial
  | [_], _, _ => trivial
  | _ :: y :: r, c, h => ⟨h.1, chn_left (y :: r) c h.2⟩
theorem chn_right {S : Plan} : ∀ (a b : List Dart), Chn S (a ++ b) → Chn S b
  | [], _, h => h
  | [_], [], _ => trivial
  | [_], _ :: _, h => h.2
  | _ :: y :: r, b, h => chn_right (y :: r) b h.2
theorem pStep_suf {s : GlaLead.LeadShop} {S : Plan} {st : List (List Dart) × List Dart} {x : Dart} {done w : List Dart} (h : w = done ++ st.2) : ∃ done', w ++ [x] = done' ++ (pStep s S st x).2 := by
  unfold pStep
  split
  · exact ⟨done, by rw [h, List.append_assoc]⟩
  · exact ⟨w, rfl⟩
theorem rowPts_at {S : Plan} {w : List Dart} {i : Nat} {x : Dart} (h : w[i]? = some x) : (GlaLead.rowPts S w)[i]? = some x.1 := by
  unfold GlaLead.rowPts
  have lt := (List.getElem?_eq_some_iff.mp h).1
  rw [List.getElem?_append_left (by rw [List.length_map]; exact lt), List.getElem?_map, h]
  rfl
theorem rowPts_nx {S : Plan} {w : List Dart} {i : Nat} {x : Dart} (c : Chn S w) (h : w[i]? = some x) : (GlaLead.rowPts S w)[i + 1]? = some (GlaLead.other S x.2 x.1) := by
  cases w with
  | nil => simp at h
  | cons y r =>
    rw [chn_row y r c, List.getElem?_cons_succ, List.getElem?_map, h]
    rfl
theorem rowPts_chl {S : Plan} {w : List Dart} (c : Chn S w) (h : w ≠ []) : (GlaLead.rowPts S w).length = w.length + 1 := by
  cases w with
  | nil => exact absurd rfl h
  | cons y r => rw [chn_row y r c, List.length_cons, List.length_map]
theorem rowB_len {S : Plan} {p0 : Nat} {had : List Dart} (c : Chn S had) : (rowB S p0 had).length = had.length + 1 := by
  unfold rowB
  split
  · rename_i h
    rw [h]
    rfl
  · rename_i h
    exact rowPts_chl c h
section
variable {P : Program} {w : World} {K : PySem.W.Frag} {mg : Str → Option Value} {base : Heap}
variable {H : Hp} {σ : L2.St} {ta tb te : TE}
/-- x = a + [..], a stays -/
theorem s_asgCat {D : Ends} {i : Nat} {l : Addr} {xs zs : List V} (ha : Ev ta σ H (.ref l)) (hl : H l = some (.lst xs)) (h : EvL tb σ H zs) (hz : xs.length + zs.length ≤ 100000) (k : ∀ q H', H q = none → Ex H H' → H' q = some (.lst (xs ++ zs)) → D.nx (σ.set i (some (.ref q))) H') : tAsg (tOp rCat ta tb) (gName i) D σ H :=
  ha H (Ex.refl H) _ fun H1 e1 => h H1 e1 _ fun p H2 np e2 h2 => ⟨l, p, xs, zs, rfl, rfl, (e1.trans e2) _ _ hl, h2, sz_of hz, fun q nq => k q _ (fresh_back (e1.trans e2) nq) ((e1.trans e2).trans (Ex.new nq)) upd_same⟩
def spPStrip (K : PySem.W.Frag) (C : Addr) : Sp := fun vs H Q _ => ∃ (a t : Addr) (sz : Nat) (S : Plan) (s : GlaLead.LeadShop) (w : List Dart), vs = [.ref a, .ref t, .int (s.bar : Int), .int (s.joint : Int)] ∧ Dw K C H a sz S ∧ Pre5 S ∧ STp S H t w ∧ Chn S w ∧ w ≠ [] ∧ w.length ≤ 40000 ∧ (∀ x ∈ w, x.2 < S.lines.length) ∧
  ∀ p ts H', PS s S H H' p ts (GlaLead.parted s S [] w) → Q (.ref p) H'
theorem ok_pieces_of_strip (T : Txt K mg) : FnOk P w K mg base CX0 4 T.pieces_of_strip.f T.pieces_of_strip.fd ["drawing", "strip", "bar", "joint"] (spPStrip K T.Drawing.C) := by
  refine T.pieces_of_strip.F.ok sc_pieces_of_strip (fun vs H Q E h => ?_) (fun cdv A outer s H vs Q E hr h => ?_)
  · obtain ⟨a, t, sz, S, s, w, rfl, _⟩ := h
    rfl
  · refine ⟨_, (pss_cons (ps_asg (pv 1) (pg_tup rfl (pgs_cons (pg_name (i := 4) sc_pieces_of_strip.nd rfl (Or.inl rfl)) (pgs_cons (pg_name (i := 5) sc_pieces_of_strip.nd rfl (Or.inl rfl)) pgs_nil))))
    (pss_cons (ps_set (i := 6) sc_pieces_of_strip.nd rfl (.inl rfl) (pe_lst pa_nil))
    (pss_cons (ps_set (i := 7) sc_pieces_of_strip.nd rfl (.inl rfl) pe_int)
    (pss_cons (ps_set (i := 8) sc_pieces_of_strip.nd rfl (.inl rfl) (pe_lst (pa_cons (pe_ix ix_list (pv 5) pe_int (fun _ _ => rfl)) pa_nil)))
    (pss_cons (ps_for PassesOwn.never rfl (pi_range1 rfl T.n_range (pa_cons (pe_callB call_len_seq (by rfl) T.n_len PySem.boot_len (pa_cons (pv 4) pa_nil)) pa_nil)) (pg_name (i := 9) sc_pieces_of_strip.nd rfl (Or.inl rfl)) (pss_cons (ps_set (i := 10) sc_pieces_of_strip.nd rfl (.inl rfl) (pe_call (ok_length_of T) (hr.mono (by decide)) rfl T.length_of.g T.length_of.F.kp T.length_of.b .nil pass0 (pa_cons (pv 0) (pa_cons (pe_ix ix_list (pv 4) (pv 9) (fun _ _ => rfl)) pa_nil))))
    (pss_cut (ps_if (PW.pt (pw_and (pt_cmpR op_gt (pe_callB call_len_seq (by rfl) T.n_len PySem.boot_len (pa_cons (pv 8) pa_nil)) pe_int (nomark _)) (pw_and1 (pt_cmpR op_gt (pe_op op_add (pe_op op_add (pv 7) (pv 10)) (pe_op op_mul pe_int (pv 3))) (pv 2) (nomark _))))) (pss_cons (ps_expr (pe_bm PySem.F.plainAttrs_list PySem.F.slot_list_append PySem.F.type_list_append mt_append (pv 6) (pa_cons (pe_tup (pa_cons (pe_op op_add (pv 7) (pe_op op_mul pe_int (pv 3))) (pa_cons (pv 8) pa_nil))) pa_nil)))
    (pss_cons (ps_set (i := 7) sc_pieces_of_strip.nd rfl (.inl rfl) pe_int)
    (pss_one (ps_set (i := 8) sc_pieces_of_strip.nd rfl (.inl rfl) (pe_lst (pa_cons (pe_ix ix_list (pv 5) (pv 9) (fun _ _ => rfl)) pa_nil)))))) pss_nil)
    (pss_cons (ps_set (i := 7) sc_pieces_of_strip.nd rfl (.inl rfl) (pe_op op_add (pv 7) (pv 10)))
    (pss_one (ps_set (i := 8) sc_pieces_of_strip.nd rfl (.inl rfl) (pe_op op_cat (pv 8) (pe_lst (pa_cons (pe_ix ix_list (pv 5) (pe_op op_add (pv 9) pe_int) (fun _ _ => rfl)) pa_nil)))))))))
    (pss_cons (ps_expr (pe_bm PySem.F.plainAttrs_list PySem.F.slot_list_append PySem.F.type_list_append mt_append (pv 6) (pa_cons (pe_tup (pa_cons (pe_op op_add (pv 7) (pe_op op_mul pe_int (pv 3))) (pa_cons (pv 8) pa_nil))) pa_nil)))
    (pss_one (ps_ret (pv 6))))))))), ?_⟩
    obtain ⟨a, t, sz, S, s, w, rfl, hD, hP, ⟨lp, pp, z1, z2, z3⟩, hC, hne, hw, hl, k⟩ := h
    have ln : (nv (w.map fun x => x.2)).length = w.length := by rw [List.length_map, List.length_map]
    obtain ⟨x0, hx0⟩ : ∃ x0, w[0]? = some x0 := by
      cases w with
      | nil => exact absurd rfl hne
      | cons y r => exact ⟨y, rfl⟩
    have atp : ∀ {i x : Nat}, (GlaLead.rowPts S w)[i]? = some x → (nv (GlaLead.rowPts S w))[i]? = some (V.int (x : Int)) := fun {i x} hx => by rw [List.getElem?_map, hx]; rfl
    have atl : ∀ {i : Nat} {x : Dart}, w[i]? = some x → (nv (w.map fun x => x.2))[i]? = some (V.int (x.2 : Int)) := fun {i x} hx => by rw [List.getElem?_map, List.getElem?_map, hx]; rfl
    refine ⟨_, rfl, t, _, rfl, st_of z1, rfl, _, _, rfl, _, _, rfl, rfl, ?_⟩
    refine q_asgL (xs := []) (el_lst ea_nil (by show 0 ≤ 100000; decide)) fun p H1 np e1 h1 => ?_
    refine q_asg (v := .int 0) ev_c fun H2 e2 => ?_
    have e12 := e1.trans e2
    refine q_asgL (xs := nv [x0.1]) (el_lst (ea_cons (ev_op (ev_var rfl) ev_c (rv_ixL (sq_of (e12 _ _ z3)) (at_of (j := 0) rfl (atp (rowPts_at hx0))))) ea_nil) (by show 1 ≤ 100000; decide)) fun q H3 nq e3 h3 => ?_
    have e13 := e12.trans e3
    have hp3 := e3 _ _ (e2 _ _ h1)
    have qp : q ≠ p := (ne_of_none (e2 _ _ h1) nq).symm
    refine q_forR1 (n := ((nv (w.map fun x => x.2)).length : Int)) (ea_cons (ev_lenL (ev_var rfl) (sq_of (e13 _ _ z2))) ea_nil) (by rw [ln]; omega)
      (fun i σ' H' => ∃ (ts : List Addr) (st : List (List Dart) × List Dart) (done : List Dart) (q : Addr), st = (w.take i).foldl (pStep s S) ([], []) ∧ PS s S H H' p ts st.1 ∧ w.take i = done ++ st.2 ∧ st.1.length ≤ i ∧ (0 < i → st.2 ≠ []) ∧ (H q = none ∧ q ≠ p) ∧ H' q = some (.lst (nv (rowB S x0.1 st.2))) ∧
        ∃ v9 v10, σ' = [some (.ref a), some (.ref t), some (.int (s.bar : Int)), some (.int (s.joint : Int)), some (.ref lp), some (.ref pp), some (.ref p), some (.int (GlaLead.wayLong S st.2 : Int)), some (.ref q), v9, v10])
      (fun H4 e4 => ⟨[], ([], []), [], q, rfl, ⟨e13.trans e4, np, e4 _ _ hp3, rfl, fun k t l a => by simp at a⟩, rfl, Nat.le_refl _, fun z => by omega, ⟨fresh_back e12 nq, qp⟩, e4 _ _ h3, _, _, rfl⟩) ?_ ?_
    · rintro i σ' H' hil ⟨ts, st, done, q, hst, hPS, hdn, h1l, h2n, nq, hq, v9, v10, rfl⟩
      rw [ln] at hil
      have hil : i < w.length := by omega
      have hx : w[i]? = some (w[i]'hil) := List.getElem?_eq_getElem _
      generalize w[i]'hil = x at hx
      have xl := hl x (List.mem_of_getElem? hx)
      have nx : (w.take (i + 1)).foldl (pStep s S) ([], []) = pStep s S st x := by
        rw [take_snoc hx, List.foldl_append, hst]
        rfl
      obtain ⟨done', hdn'⟩ := pStep_suf (s := s) (S := S) (st := st) (x := x) hdn
      have hC1 : Chn S (w.take i ++ [x]) := by
        refine chn_left _ (w.drop (i + 1)) ?_
        rw [← take_snoc hx, List.take_append_drop]
        exact hC
      have hC2 : Chn S (st.2 ++ [x]) := by
        rw [hdn, List.append_assoc] at hC1
        exact chn_right _ _ hC1
      have hl2 : st.2.length ≤ w.length := by
        have := congrArg List.length hdn
        rw [List.length_take, List.length_append] at this
        omega
      refine q_asg (ev_call (ea_cons (ev_var rfl) (ea_cons (ev_op (ev_var rfl) (ev_var rfl) (rv_ixL (sq_of (hPS.ex _ _ z2)) (at_of rfl (atl hx)))) ea_nil)) (spv_len (hD.mono hPS.ex) hP xl)) fun H4 e4 => ?_
      have hPS4 := hPS.mono e4
      have hq4 := e4 _ _ hq
      have rbl := rowB_len (p0 := x0.1) (chn_left _ _ hC2)
      refine q_cut (M := fun σ' H' => ∃ (ts : List Addr) (found : List (List Dart)) (had : List Dart) (b0 : Nat) (q : Addr), PS s S H H' p ts found ∧ (H q = none ∧ q ≠ p) ∧ H' q = some (.lst (nv (rowB S b0 had))) ∧ (had = [] → b0 = x.1) ∧ Chn S (had ++ [x]) ∧ had.length ≤ w.length ∧ found.length ≤ i + 1 ∧ pStep s S st x = (found, had ++ [x]) ∧
        σ' = [some (.ref a), some (.ref t), some (.int (s.bar : Int)), some (.int (s.joint : Int)), some (.ref lp), some (.ref pp), some (.ref p), some (.int (GlaLead.wayLong S had : Int)), some (.ref q), some (.int (i : Int)), some (.int (GlaLead.leadLong S x.2 : Int))]) ?_ ?_
      · refine s_when (et_and (et_test (ev_op (ev_lenL (ev_var rfl) (sq_of hq4)) ev_c rv_I0)) fun _ => et_test (ev_op (ev_op (ev_op (ev_var rfl) (ev_var rfl) rv_I0) (ev_op ev_c (ev_var rfl) (rv_I (show CMul 2 (s.joint : Int) from .inl ⟨by decide, by decide⟩))) rv_I0) (ev_var rfl) rv_I0)) (fun tb H5 e5 => ?_) (fun tb H5 e5 => ?_)
        · rw [List.length_map, rbl, Bool.and_eq_true, decide_eq_true_iff, decide_eq_true_iff] at tb
          have c1 : st.2 ≠ [] := by
            intro z
            rw [z] at tb
            simp at tb
          have wl := wayLong_snoc S st.2 x
          have ps : pStep s S st x = (st.1 ++ [st.2], [x]) := by
            unfold pStep
            rw [if_neg]
            rintro (z | z)
            · exact c1 z
            · omega
          have hPS5 := hPS4.mono e5
          have hq5 := e5 _ _ hq4
          refine q_appU hPS5.pl (ev_var rfl) (eu_tup (ea_cons (ev_op (ev_var rfl) (ev_op ev_c (ev_var rfl) (rv_I (show CMul 2 (s.joint : Int) from .inl ⟨by decide, by decide⟩))) rv_I0) (ea_cons (ev_var rfl) ea_nil)) (by show 2 ≤ 100000; decide)) (by rw [List.length_map, hPS5.el]; omega) fun u H6 nu e6 h6 => ?_
          have hPS6 := (hPS5.mono e6).app (t := u) (q := q) (l := st.2) nq (by rw [h6]; unfold GlaLead.pieceLong; simp) (by rw [e6 _ _ hq5]; unfold rowB; rw [if_neg c1])
          have h6p := hPS6
          generalize upd H6 p _ = H7 at hPS6
          refine q_asg (v := .int 0) ev_c fun H8 e8 => ?_
          refine s_asgL (xs := nv [x.1]) (el_lst (ea_cons (ev_op (ev_var rfl) (ev_var rfl) (rv_ixL (sq_of ((hPS6.mono e8).ex _ _ z3)) (at_of rfl (atp (rowPts_at hx))))) ea_nil) (by show 1 ≤ 100000; decide)) fun q2 H9 nq2 e9 h9 => ?_
          have hPS9 := (hPS6.mono e8).mono e9
          exact ⟨_, _, [], x.1, q2, hPS9, ⟨fresh_back (hPS6.mono e8).ex nq2, (ne_of_none (hPS6.mono e8).pl nq2).symm⟩, h9, fun _ => rfl, trivial, Nat.zero_le _, by simp; omega, ps, rfl⟩
        · rw [List.length_map, rbl] at tb
          have ps : pStep s S st x = (st.1, st.2 ++ [x]) := by
            unfold pStep
            rw [if_pos]
            have wl := wayLong_snoc S st.2 x
            by_cases c1 : st.2 = []
            · exact .inl c1
            · right
              have := List.length_pos_iff.mpr c1
              rw [Bool.and_eq_false_iff, decide_eq_false_iff_not, decide_eq_false_iff_not] at tb
              omega
          refine ⟨ts, st.1, st.2, x0.1, q, hPS4.mono e5, nq, e5 _ _ hq4, fun z => ?_, hC2, hl2, by omega, ps, rfl⟩
          have i0 : i = 0 := by
            false_or_by_contra
            exact h2n (by omega) z
          rw [i0, hx0] at hx
          rw [Option.some.inj hx]
      · rintro σ' H5 ⟨ts, found, had, b0, q, hPS, nq, hq, hb, hc, hl3, h1l', ps, rfl⟩
        refine q_asg (ev_op (ev_var rfl) (ev_var rfl) rv_I0) fun H6 e6 => ?_
        have hPS6 := hPS.mono e6
        have hq6 := e6 _ _ hq
        have rbl := rowB_len (p0 := b0) (chn_left _ _ hc)
        refine s_asgCat (zs := nv [GlaLead.other S x.2 x.1]) (ev_var rfl) hq6 (el_lst (ea_cons (ev_op (ev_var rfl) (ev_op (ev_var rfl) ev_c rv_I0) (rv_ixL (sq_of (hPS6.ex _ _ z3)) (at_of (j := i + 1) (by omega) (atp (rowPts_nx hC hx))))) ea_nil) (by show 1 ≤ 100000; decide)) (by rw [List.length_map, rbl]; simp; omega) fun q2 H7 nq2 e7 h7 => ?_
        have hPS7 := hPS6.mono e7
        refine ⟨ts, (found, had ++ [x]), done', q2, by rw [nx, ps], hPS7, by rw [take_snoc hx, hdn', ps], h1l', fun _ => by simp, ⟨fresh_back hPS6.ex nq2, (ne_of_none hPS6.pl nq2).symm⟩, ?_, some (.int (i : Int)), some (.int (GlaLead.leadLong S x.2 : Int)), ?_⟩
        · rw [h7]
          show some (HO.lst (nv _ ++ nv _)) = _
          rw [← List.map_append, ← rowB_snoc hc hb]
          unfold rowB
          rw [if_neg (by simp), if_neg (by simp)]
        · rw [wayLong_snoc]
          rfl
    · rintro σ' H' ⟨ts, st, done, q, hst, hPS, hdn, h1l, h2n, nq, hq, v9, v10, rfl⟩
      rw [ln, Int.toNat_natCast] at hst h1l h2n
      rw [List.take_length] at hst
      have c1 : st.2 ≠ [] := h2n (List.length_pos_iff.mpr hne)
      refine q_appU hPS.pl (ev_var rfl) (eu_tup (ea_cons (ev_op (ev_var rfl) (ev_op ev_c (ev_var rfl) (rv_I (show CMul 2 (s.joint : Int) from .inl ⟨by decide, by decide⟩))) rv_I0) (ea_cons (ev_var rfl) ea_nil)) (by show 2 ≤ 100000; decide)) (by rw [List.length_map, hPS.el]; omega) fun u H6 nu e6 h6 => ?_
      have hPS6 := (hPS.mono e6).app (t := u) (q := q) (l := st.2) nq (by rw [h6]; unfold GlaLead.pieceLong; simp) (by rw [e6 _ _ hq]; unfold rowB; rw [if_neg c1])
      generalize upd H6 p _ = H7 at hPS6
      have pf := parted_fold (s := s) (S := S) w [] []
      rw [List.nil_append, ← hst, if_neg c1] at pf
      exact s_ret (ev_var rfl) fun H8 e8 => k p _ H8 (by rw [pf]; exact hPS6.mono e8)
/-- more pieces -/
theorem PS.ext {s : GlaLead.LeadShop} {S : Plan} {H0 H H2 : Hp} {p r : Addr} {ts us : List Addr} {ls ms : List (List Dart)} (h : PS s S H0 H p ts ls) (h2 : PS s S H H2 r us ms) : PS s S H0 (upd H2 p (.lst (ts.map V.ref ++ us.map V.ref))) p (ts ++ us) (ls ++ ms) := by
  have hm := h.mono h2.ex
  have nt : ∀ {a : Addr} {xs : List V}, H2 a = some (.tup xs) → a ≠ p := by
    intro a xs ha z
    rw [z, hm.pl] at ha
    cases ha
  refine ⟨Ex.mut hm.ex h.pn, h.pn, by rw [upd_same, List.map_append], by rw [List.length_append, List.length_append, h.el, h2.el], fun k e l a b => ?_⟩
  by_cases c : k < ts.length
  · rw [List.getElem?_append_left c] at a
    rw [List.getElem?_append_left (by rw [← h.el]; exact c)] at b
    obtain ⟨q', n', y1, y2⟩ := hm.at_ k e l a b
    exact ⟨q', n', by rw [upd_ne (nt y1)]; exact y1, by rw [upd_ne n'.2]; exact y2⟩
  · rw [List.getElem?_append_right (by omega)] at a
    rw [List.getElem?_append_right (by rw [← h.el]; omega), ← h.el] at b
    obtain ⟨q', n', y1, y2⟩ := h2.at_ _ e l a b
    have qp : q' ≠ p := (ne_of_none h.pl n'.1).symm
    exact ⟨q', ⟨fresh_back h.ex n'.1, qp⟩, by rw [upd_ne (nt y1)]; exact y1, by rw [upd_ne qp]; exact y2⟩
end
end Lead
namespace Lead
open PySem PySem.Spec PyProof.Rows L2 Evl LeadT
open GlaPlan
/-! ### how many pieces -/
theorem parted_flat {s : GlaLead.LeadShop} {S : Plan} : ∀ (r had : List Dart), (GlaLead.parted s S had r).flatten = had ++ r
  | [], had => by
    show (if had = [] then [] else [had]).flatten = _
    split
    · rename_i h
      rw [h]
      rfl
    · simp
  | x :: r, had => by
    have e : GlaLead.parted s S had (x :: r) = if had = [] ∨ GlaLead.wayLong S (had ++ [x]) + 2 * s.joint ≤ s.bar then GlaLead.parted s S (had ++ [x]) r else had :: GlaLead.parted s S [x] r := rfl
    rw [e]
    split
    · rw [parted_flat r (had ++ [x])]
      simp
    · rw [List.flatten_cons, parted_flat r [x]]
      simp
theorem parted_ne {s : GlaLead.LeadShop} {S : Plan} : ∀ (r had : List Dart), ∀ l ∈ GlaLead.parted s S had r, l ≠ []
  | [], had, l, h => by
    have h : l ∈ (if had = [] then [] else [had]) := h
    split at h
    · cases h
    · rw [List.mem_singleton.mp h]
      assumption
  | x :: r, had, l, h => by
    have e : GlaLead.parted s S had (x :: r) = if had = [] ∨ GlaLead.wayLong S (had ++ [x]) + 2 * s.joint ≤ s.bar then GlaLead.parted s S (had ++ [x]) r else had :: GlaLead.parted s S [x] r := rfl
    rw [e] at h
    split at h
    · exact parted_ne r _ l h
    · rename_i c
      rcases List.mem_cons.mp h with rfl | h
      · exact fun z => c (.inl z)
      · exact parted_ne r _ l h
theorem len_flat {α : Type} : ∀ (ls : List (List α)), (∀ l ∈ ls, l ≠ []) → ls.length ≤ ls.flatten.length
  | [], _ => Nat.le_refl _
  | l :: ls, h => by
    have h1 := len_flat ls fun x hx => h x (by simp [hx])
    have h2 := List.length_pos_iff.mpr (h l (by simp))
    rw [List.flatten_cons, List.length_append, List.length_cons]
    omega
/-- the pieces of some strips -/
def pcs (s : GlaLead.LeadShop) (S : Plan) (ws : List (List Dart)) : List (List Dart) := ws.flatMap (GlaLead.parted s S [])
theorem pcs_all (s : GlaLead.LeadShop) (S : Plan) : pcs s S (GlaLead.strips s S) = GlaLead.pieces s S := rfl
theorem pcs_flat {s : GlaLead.LeadShop} {S : Plan} : ∀ ws : List (List Dart), (pcs s S ws).flatten = ws.flatten
  | [] => rfl
  | w :: ws => by
    have e : pcs s S (w :: ws) = GlaLead.parted s S [] w ++ pcs s S ws := List.flatMap_cons
    rw [e, List.flatten_append, parted_flat, pcs_flat ws, List.flatten_cons, List.nil_append]
theorem pcs_ne {s : GlaLead.LeadShop} {S : Plan} {ws : List (List Dart)} : ∀ l ∈ pcs s S ws, l ≠ [] := fun l h => by
  obtain ⟨w, _, h⟩ := List.mem_flatMap.mp h
  exact parted_ne w [] l h
theorem strips_flat {s : GlaLead.LeadShop} {S : Plan} (O : Pre10 S) : (GlaLead.strips s S).flatten.length ≤ S.lines.length := by
  have := strips_sum (s := s) O
  rw [List.length_flatMap] at this
  rw [List.length_flatten]
  simpa using this
theorem flat_le {α : Type} : ∀ (ls : List (List α)) (i : Nat), (ls.take i).flatten.length ≤ ls.flatten.length
  | [], i => by simp
  | l :: ls, 0 => by simp
  | l :: ls, i + 1 => by
    have := flat_le ls i
    rw [List.take_succ_cons, List.flatten_cons, List.flatten_cons, List.length_append, List.length_append]
    omega
theorem pcs_len {s : GlaLead.LeadShop} {S : Plan} (O : Pre10 S) (i : Nat) : (pcs s S ((GlaLead.strips s S).take i)).length ≤ S.lines.length := by
  have h1 := len_flat (pcs s S ((GlaLead.strips s S).take i)) pcs_ne
  rw [pcs_flat] at h1
  have h2 := flat_le (GlaLead.strips s S) i
  have h3 := strips_flat (s := s) O
  omega
theorem strip_facts {s : GlaLead.LeadShop} {S : Plan} (O : Pre10 S) {w : List Dart} (h : w ∈ GlaLead.strips s S) : Chn S w ∧ w ≠ [] ∧ w.length ≤ S.lines.length ∧ ∀ x ∈ w, x.2 < S.lines.length := by
  unfold GlaLead.strips at h
  obtain ⟨i, hi, rfl⟩ := List.mem_map.mp h
  have hi := (List.mem_filter.mp hi).1
  obtain ⟨e, ve, re, eq, _⟩ := strip_is (s := s) O hi
  obtain ⟨m, ml, R, hw⟩ := way_run (s := s) O ve
  have hw : way s S e = (List.range m).map (dk s S e) := hw
  refine ⟨by rw [eq]; exact way_chn O ve, ?_, ?_, fun x hx => ?_⟩
  · intro z
    rw [eq, hw] at z
    have := congrArg List.length z
    rw [List.length_map, List.length_range] at this
    have := R.pos
    simp at *
    omega
  · rw [eq, hw, List.length_map, List.length_range]
    exact ml
  · have := (strip_mem O hi).mp (List.mem_map.mpr ⟨x, hx, rfl⟩)
    exact leads_lt (this.lead O)
section
variable {P : Program} {w : World} {K : PySem.W.Frag} {mg : Str → Option Value} {base : Heap}
def spPieces (K : PySem.W.Frag) (C CT : Addr) : Sp := fun vs H Q E => ∃ (a l : Addr) (sz : Nat) (S : Plan) (s : GlaLead.LeadShop), vs = [.ref a, .ref l, .int (s.bar : Int), .int (s.joint : Int)] ∧ Dw K C H a sz S ∧ Pre10 S ∧ SL S H l (GlaLead.strips s S) ∧
  (∀ i, GlaLead.tooLong s S = some i → ExcP CT (tlF (i : Int)) H E) ∧ (GlaLead.tooLong s S = none → ∀ p ts H', PS s S H H' p ts (GlaLead.pieces s S) → Q (.ref p) H')
theorem PS.back {s : GlaLead.LeadShop} {S : Plan} {H0 H1 H : Hp} {p : Addr} {ts : List Addr} {ls : List (List Dart)} (e : Ex H0 H1) (h : PS s S H1 H p ts ls) : PS s S H0 H p ts ls := ⟨e.trans h.ex, fresh_back e h.pn, h.pl, h.el, fun k t l a b => by
  obtain ⟨q, n, z⟩ := h.at_ k t l a b
  exact ⟨q, ⟨fresh_back e n.1, n.2⟩, z⟩⟩
theorem ok_pieces_of (T : Txt K mg) : FnOk P w K mg base (L2.CX P w) 5 T.pieces_of.f T.pieces_of.fd ["drawing", "strips", "bar", "joint"] (spPieces K T.Drawing.C T.x_TooLong.C) := by
  refine T.pieces_of.F.okX sc_pieces_of (fun vs H Q E h => ?_) (fun cdv A outer s H vs Q E hr h => ?_)
  · obtain ⟨a, l, sz, S, s, rfl, _⟩ := h
    rfl
  · refine ⟨_, (pss_cons (ps_expr (pe_call (ok_check_lengths T) (hr.mono (by decide)) rfl T.check_lengths.g T.check_lengths.F.kp T.check_lengths.b .nil (passes_call (takes_of rfl rfl rfl rfl) (fun _ _ _ _ h => h)) (pa_cons (pv 0) (pa_cons (pv 2) (pa_cons (pv 3) pa_nil)))))
    (pss_cons (ps_set (i := 4) sc_pieces_of.nd rfl (.inl rfl) (pe_lst pa_nil))
    (pss_cons (ps_for (passes_of rfl) rfl (pi_list (pv 1)) (pg_name (i := 5) sc_pieces_of.nd rfl (Or.inl rfl)) (pss_one (ps_expr (pe_bm PySem.F.plainAttrs_list PySem.F.slot_list_extend PySem.F.type_list_extend mt_extend (pv 4) (pa_cons (pe_call (ok_pieces_of_strip T) (hr.mono (by decide)) rfl T.pieces_of_strip.g T.pieces_of_strip.F.kp T.pieces_of_strip.b .nil pass0 (pa_cons (pv 0) (pa_cons (pv 5) (pa_cons (pv 2) (pa_cons (pv 3) pa_nil))))) pa_nil)))))
    (pss_one (ps_ret (pv 4)))))), ?_⟩
    obtain ⟨a, l, sz, S, s, rfl, hD, hP, ⟨us, q1, q2, q3⟩, kE, kO⟩ := h
    have nl := hP.p.t.2.1
    have n8 := hP.p.t.2.2
    refine ⟨_, rfl, _, rfl, _, rfl, a, sz, S, s, rfl, hD, hP.p, kE, fun ok H1 e1 => ?_⟩
    have kO := kO ok
    refine q_asgL (xs := []) (el_lst ea_nil (by show 0 ≤ 100000; decide)) fun p H2 np e2 h2 => ?_
    have e12 := e1.trans e2
    refine q_forL (xs := us.map V.ref) (ev_var rfl) (sq_of (e12 _ _ q1))
      (fun i σ' H' => (∃ ts, PS s S H1 H' p ts (pcs s S ((GlaLead.strips s S).take i))) ∧ ∃ v5, σ' = [some (.ref a), some (.ref l), some (.int (s.bar : Int)), some (.int (s.joint : Int)), some (.ref p), v5])
      (fun H3 e3 => ⟨⟨[], e2.trans e3, np, e3 _ _ h2, rfl, fun k t l a => by simp at a⟩, _, rfl⟩) (fun i σ' H' _ q => sq_of ((e1.trans q.1.choose_spec.ex) _ _ q1)) ?_ ?_
    · rintro i x σ' H' hi ⟨⟨ts, hPS⟩, v5, rfl⟩
      rw [List.getElem?_map] at hi
      obtain ⟨t, ht, rfl⟩ := Option.map_eq_some_iff.mp hi
      have li : i < (GlaLead.strips s S).length := by
        have := (List.getElem?_eq_some_iff.mp ht).1
        omega
      have hw : (GlaLead.strips s S)[i]? = some ((GlaLead.strips s S)[i]'li) := List.getElem?_eq_getElem _
      generalize (GlaLead.strips s S)[i]'li = w at hw
      obtain ⟨f1, f2, f3, f4⟩ := strip_facts hP (List.mem_of_getElem? hw)
      have e01 := e1.trans hPS.ex
      have nx : pcs s S ((GlaLead.strips s S).take (i + 1)) = pcs s S ((GlaLead.strips s S).take i) ++ GlaLead.parted s S [] w := by
        unfold pcs
        rw [take_snoc hw, List.flatMap_append, List.flatMap_singleton]
      have bd := pcs_len (s := s) hP (i + 1)
      refine ⟨_, rfl, Or.inl ⟨rfl, _, sq_of hPS.pl⟩, ?_⟩
      refine ⟨_, rfl, _, rfl, _, rfl, _, rfl, a, t, sz, S, s, w, rfl, hD.mono e01, hP.p, (q3 i t w ht hw).mono e01, f1, f2, by omega, f4, fun r us H4 h4 => ?_⟩
      refine ⟨p, r, _, _, rfl, rfl, h4.ex _ _ hPS.pl, h4.pl, ?_, ?_⟩
      · refine sz_of ?_
        rw [nx, List.length_append, ← hPS.el, ← h4.el] at bd
        rw [List.length_map, List.length_map]
        omega
      · refine ⟨⟨ts ++ us, ?_⟩, _, rfl⟩
        rw [nx]
        exact hPS.ext h4
    · rintro σ' H' ⟨⟨ts, hPS⟩, v5, rfl⟩
      rw [List.length_map, q2, List.take_length, pcs_all] at hPS
      exact s_ret (ev_var rfl) fun H3 e3 => kO p ts H3 ((hPS.mono e3).back e1)
end
end Lead
namespace Lead
open PySem PySem.Spec PyProof.Rows L2 Evl LeadT
open GlaPlan
section
variable {P : Program} {w : World} {K : PySem.W.Frag} {mg : Str → Option Value} {base : Heap}
/-- a list of pieces, its lengths -/
def PLn (K : PySem.W.Frag) (H : Hp) (l : Addr) (ns : List Nat) : Prop := ∃ ts : List Addr, SqL K H l (ts.map V.ref) ∧ ts.length = ns.length ∧ ∀ (k : Nat) (t : Addr) (n : Nat), ts[k]? = some t → ns[k]? = some n → ∃ q, SqT K H t [.int (n : Int), .ref q]
theorem PLn.mono {H H' : Hp} {l : Addr} {ns : List Nat} (h : PLn K H l ns) (e : Ex H H') : PLn K H' l ns := by
  obtain ⟨ts, a, b, c⟩ := h
  exact ⟨ts, ex_l e a, b, fun k t n x y => let ⟨q, z⟩ := c k t n x y; ⟨q, ex_t e z⟩⟩
theorem PS.pln {s : GlaLead.LeadShop} {S : Plan} {H0 H : Hp} {p : Addr} {ts : List Addr} {ls : List (List Dart)} (h : PS s S H0 H p ts ls) : PLn K H p (ls.map (GlaLead.pieceLong s S)) := by
  refine ⟨ts, sq_of h.pl, by rw [List.length_map, h.el], fun k t n a b => ?_⟩
  rw [List.getElem?_map] at b
  obtain ⟨l, hl, rfl⟩ := Option.map_eq_some_iff.mp b
  obtain ⟨q, _, z, _⟩ := h.at_ k t l a hl
  exact ⟨q, st_of z⟩
def spLens (K : PySem.W.Frag) : Sp := fun vs H Q _ => ∃ (l : Addr) (ns : List Nat), vs = [.ref l] ∧ PLn K H l ns ∧ ns.length ≤ 40000 ∧ RetL (nv ns) H Q
theorem given_all (ns : List Nat) : given ns.length (fun _ => true) (fun i => V.int ((ns.getD i 0 : Nat) : Int)) = nv ns := by
  have := given_filter ns (fun _ => true) (fun i => V.int ((i : Nat) : Int)) 0
  rw [List.filter_eq_self.mpr (by simp)] at this
  exact this
theorem ok_lengths_of (T : Txt K mg) : FnOk P w K mg base CX0 1 T.lengths_of.f T.lengths_of.fd ["pieces"] (spLens K) := by
  refine T.lengths_of.F.ok sc_lengths_of (fun vs H Q E h => ?_) (fun cdv A outer s H vs Q E hr h => ?_)
  · obtain ⟨l, ns, rfl, _⟩ := h
    rfl
  · refine ⟨_, (pss_one (ps_ret (pe_lc (own := [("piece", 1)]) (g := (gName 1)) rfl sc_lengths_of.nd (pi_list (pv 0)) (blkOk_by (N := N_lengths_of) (sc := defScope s_lengths_of) (by decide +kernel)) (fun _ _ _ _ _ => (pg_name (i := 1) sc_lengths_of.nd rfl (Or.inl rfl))) (fun _ _ _ _ _ => pts_nil) (fun _ _ _ _ _ => (pe_ix (show IxR _ (rIxT K) from ix_tup) (pv 1) pe_int (fun _ _ => rfl)))))), ?_⟩
    obtain ⟨l, ns, rfl, ⟨ts, h1, h2, h3⟩, hn, k⟩ := h
    have tl : (ts.map V.ref).length = ns.length := by rw [List.length_map, h2]
    have c1 : EvL (tLc (iList K (tVar 0)) (gName 1) tYes (tOp (rIxT K) (tVar 1) (tC (.int 0))) [1]) [some (.ref l), none] H (nv ns) := by
      have := el_lcL (K := K) (σ := [some (.ref l), none]) (te := tOp (rIxT K) (tVar 1) (tC (.int 0))) (tl := tVar 0) (j := 1) (vs := [1]) (t := tYes) (fun _ => true) (fun i => V.int ((ns.getD i 0 : Nat) : Int)) (ev_var rfl) h1 (by rw [tl]; omega) (fun x => rfl) (fun i x H1 e1 hi => et_yes) (fun i x H1 e1 hi _ => by
        rw [List.getElem?_map] at hi
        obtain ⟨t, ht, rfl⟩ := Option.map_eq_some_iff.mp hi
        have lt : i < ns.length := by
          have := (List.getElem?_eq_some_iff.mp ht).1
          omega
        have hn : ns[i]? = some (ns.getD i 0) := by rw [List.getD_eq_getElem?_getD, List.getElem?_eq_getElem lt]; rfl
        obtain ⟨q, hq⟩ := h3 i t _ ht hn
        exact ev_op (ev_var rfl) ev_c (rv_ixT (ex_t e1 hq) (at_of (j := 0) rfl rfl)))
      rw [tl, given_all] at this
      exact this
    exact s_retL c1 fun p H1 np e1 h1 => k p H1 np e1 h1
end
end Lead
namespace Lead
open PySem PySem.Spec PyProof.Rows L2 Evl LeadT
open GlaPlan
/-! ### the pieces, or the lead that is too long -/
section
variable {P : Program} {w : World} {K : PySem.W.Frag} {mg : Str → Option Value} {base : Heap}
def spCut (K : PySem.W.Frag) (C : Addr) : Sp := fun vs H Q _ => ∃ (a : Addr) (sz : Nat) (S : Plan) (s : GlaLead.LeadShop), vs = [.ref a, .int (s.a : Int), .int (s.b : Int), .int (s.bar : Int), .int (s.joint : Int)] ∧ Dw K C H a sz S ∧ Pre10 S ∧ S.pts.length ≤ 200 ∧
  (∀ i, GlaLead.tooLong s S = some i → ∀ t r o H', H r = none → Ex H H' → H' t = some (.tup [.ref r, .ref o]) → H' r = some (.lst [.int (-3), .int (i : Int)]) → Q (.ref t) H') ∧
  (GlaLead.tooLong s S = none → ∀ t r p ts H', H' t = some (.tup [.ref r, .ref p]) → H' r = some (.lst []) → PS s S H H' p ts (GlaLead.pieces s S) → Q (.ref t) H')
theorem ok_cut (T : Txt K mg) : FnOk P w K mg base CX0 8 T.cut.f T.cut.fd ["drawing", "a", "b", "bar", "joint"] (spCut K T.Drawing.C) := by
  refine T.cut.F.ok sc_cut (fun vs H Q E h => ?_) (fun cdv A outer s H vs Q E hr h => ?_)
  · obtain ⟨a, sz, S, s, rfl, _⟩ := h
    rfl
  · refine ⟨_, (pss_cons (ps_try_as (i := 6) (tb := (fun W => tAsg (tCallS (spPieces K T.Drawing.C T.x_TooLong.C) (WE W) (tCons (tVar 0) (tCons (tCall (spStrips K T.Drawing.C) [] E0 (tCons (tVar 0) (tCons (tVar 1) (tCons (tVar 2) tNil)))) (tCons (tVar 3) (tCons (tVar 4) tNil))))) (gName 5))) (ts := (fun a cls d => tRet (tTup (tCons (tLst (tCons (tC (.int (-3))) (tCons (tXf a cls d T.x_TooLong.C "lead" (tVar 6)) tNil))) (tCons (tLst tNil) tNil))))) (Wout := fun _ _ _ _ => False) rfl rfl sc_cut.nd rfl rfl ⟨rfl, by decide, Or.inl T.x_TooLong.g⟩ takes0
      (fun W pn xe tk _ => pss_one (ps_set (i := 5) sc_cut.nd rfl (Or.inl rfl) (by exact (pe_callS (ok_pieces_of T) (hr.mono (by decide)) rfl T.pieces_of.g T.pieces_of.F.kp T.pieces_of.b (fun σ => passAt tk σ) (by exact (pa_cons (pv 0) (pa_cons (pe_call (ok_strips_of T) (hr.mono (by decide)) rfl T.strips_of.g T.strips_of.F.kp T.strips_of.b .nil pass0 (pa_cons (pv 0) (pa_cons (pv 1) (pa_cons (pv 2) pa_nil)))) (pa_cons (pv 3) (pa_cons (pv 4) pa_nil)))))))))
      (fun a oe cls d pn hz hf => pss_one (ps_ret (by exact (pe_tup (pa_cons (pe_lst (pa_cons (pe_glob (v := .int (-3)) rfl T.c_LEAD_TOO_LONG.choose_spec ⟨_, rfl⟩) (pa_cons (pe_xf T.x_TooLong.xf T.no_lead hz hf (pv 6)) pa_nil))) (pa_cons (pe_lst pa_nil) pa_nil)))))))
    (pss_one (ps_ret (pe_tup (pa_cons (pe_lst pa_nil) (pa_cons (pv 5) pa_nil)))))), ?_⟩
    obtain ⟨a, sz, S, s, rfl, hD, hP, h200, kE, kO⟩ := h
    refine ⟨_, rfl, ?_⟩
    refine ⟨_, rfl, _, rfl, _, rfl, ?_⟩
    refine ⟨a, sz, S, s, rfl, hD, hP, h200, fun l H1 nl e1 hL => ?_⟩
    refine ⟨_, rfl, _, rfl, ?_⟩
    refine ⟨a, l, sz, S, s, rfl, hD.mono e1, hP, hL, fun i hi d H3 e3 nd hd => ?_, fun ok p ts H3 hPS => ?_⟩
    · refine ⟨true, T.x_TooLong.te, fun _ a0 na0 => ?_, fun q => Bool.noConfusion q⟩
      refine ⟨_, rfl, rfl, rfl, d, _, _, rfl, hd, rfl, ?_⟩
      refine ⟨(by show 2 ≤ sizeLine; decide), fun r nr => ⟨(by show 0 ≤ sizeLine; decide), fun o no => ⟨(by show 2 ≤ sizeLine; decide), fun t nt => ?_⟩⟩⟩
      have x1 : Ex H3 (upd H3 r (.lst [.int (-3), .int (i : Int)])) := Ex.new nr
      have y1 : (upd H3 r (.lst [.int (-3), .int (i : Int)])) r = some (.lst [.int (-3), .int (i : Int)]) := upd_same
      have x2 := x1.trans (Ex.new (o := .lst []) no)
      have y2 := (Ex.new (o := .lst []) no) _ _ y1
      have x3 := x2.trans (Ex.new (o := .tup [.ref r, .ref o]) nt)
      have y3 := (Ex.new (o := .tup [.ref r, .ref o]) nt) _ _ y2
      exact kE i hi t r o _ (fresh_back (e1.trans e3) nr) ((e1.trans e3).trans x3) upd_same y3
    · refine ⟨(by show 0 ≤ sizeLine; decide), fun r nr => ⟨_, rfl, (by show 2 ≤ sizeLine; decide), fun t nt => ?_⟩⟩
      have x1 : Ex H3 (upd H3 r (.lst [])) := Ex.new nr
      have x2 := x1.trans (Ex.new (o := .tup [.ref r, .ref p]) nt)
      exact kO ok t r p ts _ upd_same ((Ex.new (o := .tup [.ref r, .ref p]) nt) _ _ upd_same) ((hPS.mono x2).back e1)
end
theorem pieces_len {s : GlaLead.LeadShop} {S : Plan} (O : Pre10 S) : (GlaLead.pieces s S).length ≤ S.lines.length ∧ (GlaLead.pieces s S).flatten.length ≤ S.lines.length := by
  have h1 : (GlaLead.pieces s S).flatten = (GlaLead.strips s S).flatten := pcs_flat _
  have h2 := strips_flat (s := s) O
  have h3 := len_flat (GlaLead.pieces s S) (pcs_ne (s := s) (S := S) (ws := GlaLead.strips s S))
  rw [h1] at h3 ⊢
  omega
/-! ### what is answered -/
def ansF (g : GlaLead.LeadShop → Plan → LeadSpec.Answer) (s : GlaLead.LeadShop) (b : List UInt8) : List Int := match openF s.ok b with
  | .error l => l
  | .ok S => match GlaLead.tooLong s S with
    | some i => [-3, (i : Int)]
    | none => Neutral.told (g s S)
theorem answer_fits (s : GlaLead.LeadShop) (b : List UInt8) (g : GlaLead.LeadShop → Plan → LeadSpec.Answer) : (match (if s.ok = false then LeadSpec.BAD else LeadSpec.ofPlan b fun S => LeadSpec.fits s S (g s S)) with | x => Neutral.told x) = ansF g s b := by
  refine (answer_open s b fun S => LeadSpec.fits s S (g s S)).trans ?_
  unfold ansF LeadSpec.fits
  cases openF s.ok b with
  | error l => rfl
  | ok S =>
    dsimp only
    cases GlaLead.tooLong s S <;> rfl
/-- a call's promise -/
def spShopF (K : PySem.W.Frag) (g : GlaLead.LeadShop → Plan → LeadSpec.Answer) : Sp := fun vs H Q _ => ∃ (c : Addr) (s : GlaLead.LeadShop) (b : List UInt8), vs = [.int (s.a : Int), .int (s.b : Int), .int (s.bar : Int), .int (s.joint : Int), .int (s.loss : Int), .ref c] ∧ SqL K H c (bz b) ∧ GlaBase.num b 12 2 ≤ 200 ∧
  ∀ p H', H p = none → Ex H H' → H' p = some (.lst ((ansF g s b).map V.int)) → Q (.ref p) H'
end Lead
namespace Lead
open PySem PySem.Spec PyProof.Rows L2 Evl LeadT
open GlaPlan
/-! ### the arguments -/
end Lead
namespace Lead
open GlaPlan
/-! ### the longest first -/
def keyZ (x : Nat × Nat) : Z2 := (-(x.2 : Int), (x.1 : Int))
/-- pieces by number and length -/
def rawL (l : List Nat) : List (Nat × Nat) := l.zipIdx.map fun (x : Nat × Nat) => (x.2, x.1)
def lsort (l : List Nat) : List (Nat × Nat) := inOrder GlaLead.longest (rawL l)
theorem longest_iff {x y : Nat × Nat} : GlaLead.longest x y = true ↔ y.2 < x.2 ∨ (x.2 = y.2 ∧ x.1 < y.1) := by
  unfold GlaLead.longest
  simp
theorem longest_ord : Ord GlaLead.longest (fun _ => True) := by
  refine ⟨fun x _ => ?_, fun x y z _ _ _ h1 h2 => ?_, fun x y _ _ h => ?_⟩
  · rw [Bool.eq_false_iff, Ne, longest_iff]
    omega
  · rw [longest_iff] at *
    omega
  · rw [longest_iff, longest_iff]
    have : ¬ (x.1 = y.1 ∧ x.2 = y.2) := fun z => h (Prod.ext z.1 z.2)
    omega
theorem rawL_len (l : List Nat) : (rawL l).length = l.length := by
  unfold rawL
  rw [List.length_map, List.length_zipIdx]
theorem rawL_at {l : List Nat} {i : Nat} : (rawL l)[i]? = l[i]?.map fun n => (i, n) := by
  unfold rawL
  rw [List.getElem?_map, List.getElem?_zipIdx]
  cases l[i]? with
  | none => rfl
  | some n => simp
theorem rawL_fst (l : List Nat) : (rawL l).map (fun x => x.1) = List.range l.length := by
  refine List.ext_getElem? fun i => ?_
  rw [List.getElem?_map, rawL_at]
  by_cases c : i < l.length
  · rw [List.getElem?_range c, List.getElem?_eq_getElem c]
    rfl
  · rw [List.getElem?_eq_none (by omega), List.getElem?_eq_none (by rw [List.length_range]; omega)]
    rfl
theorem lsort_perm (l : List Nat) : (lsort l).Perm (rawL l) := inOrder_perm (rawL l)
theorem lsort_fst (l : List Nat) : ((lsort l).map (fun x => x.1)).Perm (List.range l.length) := by
  have := (lsort_perm l).map (fun x => x.1)
  rw [rawL_fst] at this
  exact this
theorem rawL_nd (l : List Nat) : (rawL l).Nodup := by
  have h : ((rawL l).map (fun x => x.1)).Nodup := by rw [rawL_fst]; exact List.nodup_range
  rw [List.nodup_iff_pairwise_ne, List.pairwise_map] at h
  rw [List.nodup_iff_pairwise_ne]
  exact List.Pairwise.imp (fun h z => h (by rw [z])) h
theorem lsort_mem {l : List Nat} {x : Nat × Nat} (h : x ∈ lsort l) : l[x.1]? = some x.2 := by
  have h := (lsort_perm l).mem_iff.mp h
  obtain ⟨i, hi⟩ := List.getElem?_of_mem h
  rw [rawL_at] at hi
  obtain ⟨n, hn, rfl⟩ := Option.map_eq_some_iff.mp hi
  exact hn
theorem lexB_key {x y : Nat × Nat} : SrtO.lexB (keyZ x) (keyZ y) = GlaLead.longest x y := by
  rw [Bool.eq_iff_iff, SrtO.lexB_iff, longest_iff]
  unfold keyZ
  dsimp only
  omega
theorem lsort_eq {l : List Nat} {zs : List Z2} (pm : zs.Perm ((rawL l).map keyZ)) (so : zs.Pairwise fun a b => SrtO.lexB b a = false) : zs = (lsort l).map keyZ := by
  refine List.Perm.eq_of_pairwise (le := fun a b => SrtO.lexB b a = false) (fun a b _ _ h1 h2 => ?_) so ?_ (pm.trans ((lsort_perm l).map keyZ).symm)
  · rw [SrtO.lexB_no] at h1 h2
    refine Prod.ext ?_ ?_ <;> omega
  · rw [List.pairwise_map]
    refine List.Pairwise.imp (fun {a b} h => ?_) (inOrder_srt longest_ord (rawL l) (fun _ _ => trivial) (rawL_nd l))
    rw [lexB_key]
    exact longest_ord.asy trivial trivial h
/-! ### the bars, as the program has them: what is on each, how many -/
def fillZ (l : List (Nat × Nat)) : Z2 := ((GlaLead.sumOf (l.map fun y => y.2) : Nat), (l.length : Nat))
/-- the bar on which it fits -/
def fitB (s : GlaLead.LeadShop) (x : Nat × Nat) (l : List (Nat × Nat)) : Bool := decide (GlaLead.filled s ((l ++ [x]).map fun (y : Nat × Nat) => y.2) ≤ s.bar)
def firstB (s : GlaLead.LeadShop) (x : Nat × Nat) (bars : List (List (Nat × Nat))) : Nat := (bars.findIdx? (fitB s x)).getD bars.length
theorem fitB_eq (s : GlaLead.LeadShop) (x : Nat × Nat) (l : List (Nat × Nat)) : fitB s x l = decide ((fillZ l).1 + (x.2 : Int) + (s.loss : Int) * (fillZ l).2 ≤ (s.bar : Int)) := by
  unfold fitB fillZ GlaLead.filled
  rw [List.map_append, List.map_singleton, sumOf_snoc, List.length_append, List.length_singleton, List.length_map, Nat.add_sub_cancel, Bool.eq_iff_iff, decide_eq_true_iff, decide_eq_true_iff]
  dsimp only
  rw [← Int.natCast_mul]
  omega
theorem putOn_eq (s : GlaLead.LeadShop) (x : Nat × Nat) (bars : List (List (Nat × Nat))) : GlaLead.putOn s x bars = if firstB s x bars < bars.length then bars.modify (firstB s x bars) (fun l => l ++ [x]) else bars ++ [[x]] := by
  have e : GlaLead.putOn s x bars = match bars.findIdx? (fitB s x) with
    | some k => bars.modify k fun (l : List (Nat × Nat)) => l ++ [x]
    | none => bars ++ [[x]] := rfl
  rw [e]
  unfold firstB
  cases q : bars.findIdx? (fitB s x) with
  | none =>
    dsimp only [Option.getD_none]
    rw [if_neg (Nat.lt_irrefl _)]
  | some k =>
    dsimp only [Option.getD_some]
    rw [if_pos (List.findIdx?_eq_some_iff_getElem.mp q).1]
theorem firstB_le (s : GlaLead.LeadShop) (x : Nat × Nat) (bars : List (List (Nat × Nat))) : firstB s x bars ≤ bars.length := by
  unfold firstB
  cases q : bars.findIdx? (fitB s x) with
  | none => exact Nat.le_refl _
  | some k => exact Nat.le_of_lt (List.findIdx?_eq_some_iff_getElem.mp q).1
/-- the bars of the first pieces -/
def barsP (s : GlaLead.LeadShop) (l : List Nat) (m : Nat) : List (List (Nat × Nat)) := ((lsort l).take m).foldl (fun (b : List (List (Nat × Nat))) (x : Nat × Nat) => GlaLead.putOn s x b) []
theorem barsP_all (s : GlaLead.LeadShop) (l : List Nat) : barsP s l (lsort l).length = GlaLead.barsOf s l := by
  unfold barsP
  rw [List.take_length]
  rfl
theorem barsP_succ (s : GlaLead.LeadShop) (l : List Nat) (m : Nat) {x : Nat × Nat} (h : (lsort l)[m]? = some x) : barsP s l (m + 1) = GlaLead.putOn s x (barsP s l m) := by
  unfold barsP
  rw [take_snoc h, List.foldl_append]
  rfl
/-- is a piece on a bar? -/
def onB (i : Nat) (l : List (Nat × Nat)) : Bool := l.any fun (x : Nat × Nat) => x.1 == i
theorem barOf_eq (b : List (List (Nat × Nat))) (i : Nat) : GlaLead.barOf b i = (b.findIdx? (onB i)).getD 0 := rfl
theorem onB_snoc (i : Nat) (l : List (Nat × Nat)) (x : Nat × Nat) : onB i (l ++ [x]) = (onB i l || x.1 == i) := by
  unfold onB
  rw [List.any_append, List.any_cons, List.any_nil, Bool.or_false]
theorem findIdx_modify {α : Type} (p : α → Bool) (f : α → α) : ∀ (l : List α) (k : Nat), (∀ x ∈ l, p (f x) = p x) → (l.modify k f).findIdx? p = l.findIdx? p
  | [], k, _ => by cases k <;> rfl
  | x :: l, 0, h => by
    rw [List.modify_zero_cons, List.findIdx?_cons, List.findIdx?_cons, h x (by simp)]
  | x :: l, k + 1, h => by
    rw [List.modify_succ_cons, List.findIdx?_cons, List.findIdx?_cons, findIdx_modify p f l k fun y hy => h y (by simp [hy])]
theorem barOf_put (s : GlaLead.LeadShop) (x : Nat × Nat) (bars : List (List (Nat × Nat))) (new : ∀ l ∈ bars, onB x.1 l = false) (i : Nat) : GlaLead.barOf (GlaLead.putOn s x bars) i = if i = x.1 then firstB s x bars else GlaLead.barOf bars i := by
  rw [putOn_eq, barOf_eq, barOf_eq]
  have le := firstB_le s x bars
  generalize firstB s x bars = k at le
  by_cases c : k < bars.length
  · rw [if_pos c]
    by_cases d : i = x.1
    · subst d
      rw [if_pos rfl]
      have : (bars.modify k fun l => l ++ [x]).findIdx? (onB x.1) = some k := by
        rw [List.findIdx?_eq_some_iff_getElem]
        refine ⟨by rw [List.length_modify]; exact c, ?_, fun j hj => ?_⟩
        · rw [List.getElem_modify, if_pos rfl, onB_snoc]
          simp
        · rw [List.getElem_modify, if_neg (by omega), new _ (List.getElem_mem _)]
          decide
      rw [this]
      rfl
    · rw [if_neg d, findIdx_modify (onB i) (fun l => l ++ [x]) bars k fun l _ => ?_]
      rw [onB_snoc, beq_eq_false_iff_ne.mpr (Ne.symm d), Bool.or_false]
  · have ek : k = bars.length := by omega
    rw [if_neg c, List.findIdx?_append]
    by_cases d : i = x.1
    · subst d
      have : bars.findIdx? (onB x.1) = none := List.findIdx?_eq_none_iff.mpr new
      have e2 : [[x]].findIdx? (onB x.1) = some 0 := by
        rw [List.findIdx?_cons]
        unfold onB
        simp
      rw [if_pos rfl, this, e2, ek]
      simp
    · have e2 : [[x]].findIdx? (onB i) = none := by
        rw [List.findIdx?_cons]
        unfold onB
        have : (x.1 == i) = false := beq_eq_false_iff_ne.mpr (Ne.symm d)
        simp [this]
      rw [if_neg d, e2]
      simp
theorem putOn_on (s : GlaLead.LeadShop) (x : Nat × Nat) (bars : List (List (Nat × Nat))) (i : Nat) (h : i ≠ x.1) (no : ∀ l ∈ bars, onB i l = false) : ∀ l ∈ GlaLead.putOn s x bars, onB i l = false := by
  have b1 : (x.1 == i) = false := beq_eq_false_iff_ne.mpr (Ne.symm h)
  intro l hl
  rw [putOn_eq] at hl
  split at hl
  · obtain ⟨j, hj, rfl⟩ := List.getElem_of_mem hl
    rw [List.getElem_modify]
    rw [List.length_modify] at hj
    split
    · rw [onB_snoc, no _ (List.getElem_mem _), b1]
      rfl
    · exact no _ (List.getElem_mem _)
  · rcases List.mem_append.mp hl with q | q
    · exact no l q
    · rw [List.mem_singleton.mp q]
      unfold onB
      simp [b1]
/-- pieces not yet put are on no bar -/
theorem barsP_new (s : GlaLead.LeadShop) (l : List Nat) (i : Nat) : ∀ m, (∀ j, j < m → ((lsort l)[j]?.map fun x => x.1) ≠ some i) → ∀ b ∈ barsP s l m, onB i b = false
  | 0, _, b, hb => by
    unfold barsP at hb
    cases hb
  | m + 1, h, b, hb => by
    have ih := barsP_new s l i m fun j hj => h j (by omega)
    cases q : (lsort l)[m]? with
    | none =>
      have e : barsP s l (m + 1) = barsP s l m := by
        unfold barsP
        have := List.getElem?_eq_none_iff.mp q
        rw [List.take_of_length_le (by omega), List.take_of_length_le this]
      rw [e] at hb
      exact ih b hb
    | some x =>
      rw [barsP_succ s l m q] at hb
      refine putOn_on s x _ i (fun z => ?_) ih b hb
      have := h m (by omega)
      rw [q] at this
      exact this (by rw [z]; rfl)
theorem lsort_nd (l : List Nat) : ((lsort l).map (fun x => x.1)).Nodup := (lsort_fst l).nodup_iff.mpr List.nodup_range
theorem barOf_succ (s : GlaLead.LeadShop) (l : List Nat) (m : Nat) {x : Nat × Nat} (h : (lsort l)[m]? = some x) (i : Nat) : GlaLead.barOf (barsP s l (m + 1)) i = if i = x.1 then firstB s x (barsP s l m) else GlaLead.barOf (barsP s l m) i := by
  rw [barsP_succ s l m h]
  refine barOf_put s x _ (barsP_new s l x.1 m fun j hj z => ?_) i
  have nd := lsort_nd l
  rw [List.nodup_iff_pairwise_ne, List.pairwise_iff_getElem] at nd
  obtain ⟨lt, _⟩ := List.getElem?_eq_some_iff.mp h
  have h1 : ((lsort l).map (fun x => x.1))[j]? = some x.1 := by rw [List.getElem?_map]; exact z
  have h2 : ((lsort l).map (fun x => x.1))[m]? = some x.1 := by rw [List.getElem?_map, h]; rfl
  obtain ⟨l1, e1⟩ := List.getElem?_eq_some_iff.mp h1
  obtain ⟨l2, e2⟩ := List.getElem?_eq_some_iff.mp h2
  exact nd j m l1 l2 hj (by rw [e1, e2])
theorem lsort_len (l : List Nat) : (lsort l).length = l.length := by rw [(lsort_perm l).length_eq, rawL_len]
/-! ### no bar is empty -/
theorem putOn_len (s : GlaLead.LeadShop) (x : Nat × Nat) (bars : List (List (Nat × Nat))) : (GlaLead.putOn s x bars).length = max bars.length (firstB s x bars + 1) := by
  have le := firstB_le s x bars
  rw [putOn_eq]
  split
  · rw [List.length_modify]
    omega
  · rw [List.length_append, List.length_singleton]
    omega
theorem barsP_len (s : GlaLead.LeadShop) (l : List Nat) (m : Nat) : (barsP s l m).length ≤ m := by
  induction m with
  | zero => exact Nat.le_refl _
  | succ m ih =>
    cases q : (lsort l)[m]? with
    | none =>
      have e : barsP s l (m + 1) = barsP s l m := by
        unfold barsP
        have := List.getElem?_eq_none_iff.mp q
        rw [List.take_of_length_le (by omega), List.take_of_length_le this]
      rw [e]
      omega
    | some x =>
      have le := firstB_le s x (barsP s l m)
      rw [barsP_succ s l m q, putOn_len]
      omega
end Lead
namespace Lead
open PySem PySem.Spec PyProof.Rows L2 Evl LeadT
open GlaPlan
/-! ### the arguments -/
end Lead
namespace Lead
open GlaPlan
/-! ### what is on each bar -/
def onBar (z : List (Nat × Nat)) (k : Nat) : List Nat := (z.filter fun (x : Nat × Nat) => x.2 == k).map fun (x : Nat × Nat) => x.1
def valOn (s : GlaLead.LeadShop) (z : List (Nat × Nat)) (k : Nat) : Int := (GlaLead.sumOf (onBar z k) : Int) + (s.loss : Int) * ((onBar z k).length : Int) - (s.loss : Int)
theorem onBar_snoc (z : List (Nat × Nat)) (x : Nat × Nat) (k : Nat) : onBar (z ++ [x]) k = if x.2 = k then onBar z k ++ [x.1] else onBar z k := by
  unfold onBar
  rw [List.filter_append, List.map_append]
  by_cases c : x.2 = k
  · rw [if_pos c, List.filter_cons_of_pos (by simpa using c)]
    rfl
  · rw [if_neg c, List.filter_cons_of_neg (by simpa using c)]
    simp
theorem valOn_snoc (s : GlaLead.LeadShop) (z : List (Nat × Nat)) (x : Nat × Nat) (k : Nat) : valOn s (z ++ [x]) k = if k = x.2 then valOn s z k + (x.1 : Int) + (s.loss : Int) else valOn s z k := by
  unfold valOn
  rw [onBar_snoc]
  by_cases c : x.2 = k
  · rw [if_pos c, if_pos c.symm, sumOf_snoc, List.length_append, List.length_singleton, Int.natCast_add, Int.natCast_add, Int.mul_add]
    omega
  · rw [if_neg c, if_neg (Ne.symm c)]
theorem onBar_nil {z : List (Nat × Nat)} {k : Nat} (h : ¬ k ∈ z.map fun (x : Nat × Nat) => x.2) : onBar z k = [] := by
  unfold onBar
  rw [List.map_eq_nil_iff, List.filter_eq_nil_iff]
  intro x hx c
  exact h (List.mem_map.mpr ⟨x, hx, by simpa using c⟩)
theorem valOn_nil (s : GlaLead.LeadShop) {z : List (Nat × Nat)} {k : Nat} (h : ¬ k ∈ z.map fun (x : Nat × Nat) => x.2) : valOn s z k = 0 - (s.loss : Int) := by
  unfold valOn
  rw [onBar_nil h]
  show (0 : Int) + (s.loss : Int) * 0 - (s.loss : Int) = _
  omega
theorem valOn_filled (s : GlaLead.LeadShop) {z : List (Nat × Nat)} {k : Nat} (h : k ∈ z.map fun (x : Nat × Nat) => x.2) : valOn s z k = (GlaLead.filled s (onBar z k) : Int) := by
  unfold valOn GlaLead.filled
  have : 0 < (onBar z k).length := by
    obtain ⟨x, hx, rfl⟩ := List.mem_map.mp h
    unfold onBar
    rw [List.length_map]
    exact List.length_pos_iff.mpr (List.ne_nil_of_mem (List.mem_filter.mpr ⟨hx, by simp⟩))
  obtain ⟨c, hc⟩ : ∃ c, (onBar z k).length = c + 1 := ⟨(onBar z k).length - 1, by omega⟩
  rw [hc, Nat.add_sub_cancel, Int.natCast_add, Int.natCast_add, Int.natCast_mul, Int.mul_add]
  omega
/-! ### the bars' numbers in order -/
def below (a b : Nat) : Bool := decide (a < b)
theorem below_ord : Ord below (fun _ => True) := by
  refine ⟨fun x _ => ?_, fun x y z _ _ _ h1 h2 => ?_, fun x y _ _ h => ?_⟩
  · unfold below
    simp
  · unfold below at *
    simp at *
    omega
  · unfold below
    simp
    omega
theorem eraseDups_nd : ∀ (n : Nat) (l : List Nat), l.length ≤ n → l.eraseDups.Nodup
  | _, [], _ => by
    rw [List.eraseDups_nil]
    exact List.nodup_nil
  | 0, _ :: _, h => by simp at h
  | n + 1, a :: l, h => by
    rw [List.eraseDups_cons, List.nodup_cons]
    refine ⟨fun z => ?_, eraseDups_nd n _ ?_⟩
    · have := List.mem_eraseDups.mp z
      have := (List.mem_filter.mp this).2
      simp at this
    · have := List.length_filter_le (fun b => !b == a) l
      rw [List.length_cons] at h
      omega
theorem nd_perm {l m : List Nat} (hl : l.Nodup) (hm : m.Nodup) (h : ∀ x, x ∈ l ↔ x ∈ m) : l.Perm m := by
  rw [List.perm_iff_count]
  intro a
  rw [hl.count, hm.count]
  by_cases c : a ∈ l
  · rw [if_pos c, if_pos ((h a).mp c)]
  · rw [if_neg c, if_neg (fun z => c ((h a).mpr z))]
def bnums (row : List Nat) : List Nat := inOrder below row.eraseDups
theorem bnums_mem {row : List Nat} {k : Nat} : k ∈ bnums row ↔ k ∈ row := by
  rw [show k ∈ bnums row ↔ k ∈ row.eraseDups from (inOrder_perm (before := below) row.eraseDups).mem_iff]
  exact List.mem_eraseDups
theorem bnums_eq {row ks : List Nat} {ns : List Int} (nd : ks.Nodup) (hm : ∀ x, x ∈ ks ↔ x ∈ row) (pm : ns.Perm (iz ks)) (so : ns.Pairwise fun a b => a ≤ b) : ns = iz (bnums row) := by
  have p2 : ks.Perm (bnums row) := (nd_perm nd (eraseDups_nd _ row (Nat.le_refl _)) fun x => (hm x).trans List.mem_eraseDups.symm).trans (inOrder_perm (before := below) row.eraseDups).symm
  refine List.Perm.eq_of_pairwise (le := fun a b => a ≤ b) (fun a b _ _ h1 h2 => by omega) so ?_ (pm.trans (p2.map _))
  unfold iz
  rw [List.pairwise_map]
  refine List.Pairwise.imp (fun {a b} h => ?_) (inOrder_srt below_ord row.eraseDups (fun _ _ => trivial) (eraseDups_nd _ row (Nat.le_refl _)))
  unfold below at h
  have := of_decide_eq_true h
  omega
theorem over_eq (s : GlaLead.LeadShop) (l row : List Nat) : GlaLead.overFull s l row = (bnums row).find? fun k => decide (s.bar < GlaLead.filled s (onBar (l.zip row) k)) := rfl
def overZ (s : GlaLead.LeadShop) (l row : List Nat) : Int := match GlaLead.overFull s l row with
  | some k => (k : Int)
  | none => -1
open PySem L2 in
theorem keys_put (kvs : List (Key × V)) (k : Key) (y : V) : (k ∈ kvs.map (fun kv => kv.1) → (putK kvs k y).map (fun kv => kv.1) = kvs.map (fun kv => kv.1)) ∧ (¬ k ∈ kvs.map (fun kv => kv.1) → (putK kvs k y).map (fun kv => kv.1) = kvs.map (fun kv => kv.1) ++ [k]) := by
  unfold putK
  have : (kvs.any fun kv => decide (kv.1 = k)) = true ↔ k ∈ kvs.map (fun kv => kv.1) := by
    rw [List.any_eq_true, List.mem_map]
    constructor
    · rintro ⟨x, hx, e⟩
      exact ⟨x, hx, of_decide_eq_true e⟩
    · rintro ⟨x, hx, e⟩
      exact ⟨x, hx, decide_eq_true e⟩
  refine ⟨fun c => ?_, fun c => ?_⟩
  · rw [if_pos (this.mpr c), List.map_map]
    refine List.map_congr_left fun x _ => ?_
    show (if x.1 = k then (x.1, y) else x).1 = x.1
    split <;> rfl
  · rw [if_neg (fun z => c (this.mp z)), List.map_append]
    rfl
end Lead
namespace Lead
open PySem PySem.Spec PyProof.Rows L2 Evl LeadT
open GlaPlan
abbrev kN (k : Nat) : Key := Sum.inl ((k : Nat) : Int)
theorem kN_inj {a b : Nat} (h : kN a = kN b) : a = b := by
  have := Sum.inl.inj h
  omega
/-- the dict of what is on each bar -/
structure FD (s : GlaLead.LeadShop) (z : List (Nat × Nat)) (H : Hp) (d : Addr) (kvs : List (Key × V)) (ks : List Nat) : Prop where
  dk : H d = some (.dK kvs)
  key : kvs.map (fun kv => kv.1) = ks.map kN
  val : ∀ k : Nat, valV kvs (kN k) = if k ∈ z.map (fun (x : Nat × Nat) => x.2) then some (V.int (valOn s z k)) else none
  nd : ks.Nodup
  mem : ∀ x, x ∈ ks ↔ x ∈ z.map fun (x : Nat × Nat) => x.2
section
variable {s : GlaLead.LeadShop} {z : List (Nat × Nat)} {H H' : Hp} {d : Addr} {kvs : List (Key × V)} {ks : List Nat}
theorem FD.mono (h : FD s z H d kvs ks) (e : Ex H H') : FD s z H' d kvs ks := ⟨e _ _ h.dk, h.key, h.val, h.nd, h.mem⟩
theorem FD.get (h : FD s z H d kvs ks) (k : Nat) : (valV kvs (kN k)).getD (.int (0 - (s.loss : Int))) = .int (valOn s z k) := by
  rw [h.val k]
  by_cases c : k ∈ z.map fun (x : Nat × Nat) => x.2
  · rw [if_pos c]
    rfl
  · rw [if_neg c, valOn_nil s c]
    rfl
theorem FD.put (h : FD s z H d kvs ks) (x : Nat × Nat) : FD s (z ++ [x]) (upd H d (.dK (putK kvs (kN x.2) (.int (valOn s z x.2 + (x.1 : Int) + (s.loss : Int)))))) d (putK kvs (kN x.2) (.int (valOn s z x.2 + (x.1 : Int) + (s.loss : Int)))) (kAddN ks x.2) := by
  have kp := keys_put kvs (kN x.2) (.int (valOn s z x.2 + (x.1 : Int) + (s.loss : Int)))
  have km : kN x.2 ∈ kvs.map (fun kv => kv.1) ↔ x.2 ∈ ks := by
    rw [h.key, List.mem_map]
    constructor
    · rintro ⟨y, hy, e⟩
      rw [← kN_inj e]
      exact hy
    · exact fun hy => ⟨_, hy, rfl⟩
  refine ⟨upd_same, ?_, fun k => ?_, kAddN_nd h.nd, fun y => ?_⟩
  · by_cases c : x.2 ∈ ks
    · rw [kp.1 (km.mpr c), h.key]
      unfold kAddN
      rw [if_pos c]
    · rw [kp.2 (fun q => c (km.mp q)), h.key]
      unfold kAddN
      rw [if_neg c, List.map_append]
      rfl
  · rw [valV_put, valOn_snoc]
    by_cases c : k = x.2
    · subst c
      rw [if_pos rfl, if_pos rfl, if_pos (by simp)]
    · rw [if_neg (fun q => c (kN_inj q)), if_neg c, h.val k]
      refine if_iff ?_
      rw [List.map_append, List.mem_append, List.map_singleton, List.mem_singleton]
      exact ⟨.inl, fun q => q.resolve_right c⟩
  · rw [kAddN_mem, h.mem, List.map_append, List.mem_append, List.map_singleton, List.mem_singleton]
end
section
variable {P : Program} {w : World} {K : PySem.W.Frag} {mg : Str → Option Value} {base : Heap}
variable {H : Hp} {σ : L2.St} {td ty tx te : TE}
theorem ev_dget2K {d : Addr} {kvs : List (Key × V)} {k : Int} {z : V} (hd : Ev td σ H (.ref d)) (hk : Ev ty σ H (.int k)) (hx : Ev tx σ H z) (h : H d = some (.dK kvs)) : Ev (tDGet2 td ty tx) σ H ((valV kvs (Sum.inl k)).getD z) := fun H1 e Q q =>
  hd H1 e _ fun H2 e2 => ⟨d, rfl, .inl ⟨kvs, .inl ((e.trans e2) _ _ h)⟩, hk H2 (e.trans e2) _ fun H3 e3 => hx H3 ((e.trans e2).trans e3) _ fun H4 e4 => ⟨_, DGet.k (k := Sum.inl k) ((((e.trans e2).trans e3).trans e4) _ _ h), q H4 ((e2.trans e3).trans e4)⟩⟩
theorem ev_dgetK {d : Addr} {kvs : List (Key × V)} {k : Int} {v : V} (hd : Ev td σ H (.ref d)) (hk : Ev ty σ H (.int k)) (h : H d = some (.dK kvs)) (hv : valV kvs (Sum.inl k) = some v) : Ev (tDGet td ty) σ H v := fun H1 e Q q =>
  hd H1 e _ fun H2 e2 => hk H2 (e.trans e2) _ fun H3 e3 => ⟨d, v, rfl, by rw [← hv]; exact DGet.k (k := Sum.inl k) (((e.trans e2).trans e3) _ _ h), q H3 (e2.trans e3)⟩
/-- sorted(list(d)) -/
theorem el_keys {d : Addr} {kvs : List (Key × V)} {ks row : List Nat} (hd : Ev te σ H (.ref d)) (h : H d = some (.dK kvs)) (hk : kvs.map (fun kv => kv.1) = ks.map kN) (nd : ks.Nodup) (hm : ∀ x, x ∈ ks ↔ x ∈ row) : EvL (tCB (rSortedI K) (tCons (tCB rListD (tCons te tNil)) tNil)) σ H (nv (bnums row)) := fun H1 e Q q =>
  hd H1 e _ fun H2 e2 => ⟨d, kvs, rfl, (e.trans e2) _ _ h, fun r nr => ⟨r, iz ks, rfl, sq_of (by
    rw [upd_same, iz_nv]
    have : kvs.map (fun kv => kV kv.1) = (kvs.map fun kv => kv.1).map kV := by rw [List.map_map]; rfl
    rw [this, hk, nv, List.map_map]
    rfl), fun ns' t pm so nt => by
    have x1 : Ex H2 (upd H2 r (.lst (kvs.map fun kv => kV kv.1))) := Ex.new nr
    refine q t _ (fresh_back (e2.trans x1) nt) ((e2.trans x1).trans (Ex.new nt)) ?_
    rw [upd_same, bnums_eq nd hm pm so, iz_nv]⟩⟩
def spOver (K : PySem.W.Frag) : Sp := fun vs H Q _ => ∃ (p q : Addr) (s : GlaLead.LeadShop) (l row : List Nat), vs = [.ref p, .ref q, .int (s.bar : Int), .int (s.loss : Int)] ∧ SqL K H p (nv l) ∧ SqL K H q (nv row) ∧ l.length = row.length ∧ l.length ≤ 40000 ∧ RetV (.int (overZ s l row)) H Q
theorem ok_overfull (T : Txt K mg) : FnOk P w K mg base CX0 1 T.overfull.f T.overfull.fd ["lengths", "row", "bar", "loss"] (spOver K) := by
  refine T.overfull.F.ok sc_overfull (fun vs H Q E h => ?_) (fun cdv A outer s H vs Q E hr h => ?_)
  · obtain ⟨p, q, s, l, row, rfl, _⟩ := h
    rfl
  · refine ⟨_, (pss_cons (ps_set (i := 4) sc_overfull.nd rfl (.inl rfl) pe_dnewK)
    (pss_cons (ps_for PassesOwn.never rfl (pi_zip (by rfl) T.n_zip (pa_cons (pv 0) (pa_cons (pv 1) pa_nil))) (pg_tup rfl (pgs_cons (pg_name (i := 5) sc_overfull.nd rfl (Or.inl rfl)) (pgs_cons (pg_name (i := 6) sc_overfull.nd rfl (Or.inl rfl)) pgs_nil))) (pss_one (ps_dput (hu_of hr) (pv 4) (pv 6) (pe_op op_add (pe_op op_add (pe_dget2 (hu_of hr) (pv 4) (pv 6) (pe_op op_sub pe_int (pv 3)) ⟨rfl, rfl, rfl, rfl⟩) (pv 5)) (pv 3)) rfl)))
    (pss_cons (ps_for PassesOwn.never rfl (pi_list (pe_callB cr_sortedI (by rfl) T.n_sorted (by decide +kernel) (pa_cons (pe_callTy (call_list_dK rfl) (by rfl) T.n_list (by decide +kernel) (pa_cons (pv 4) pa_nil)) pa_nil))) (pg_name (i := 6) sc_overfull.nd rfl (Or.inl rfl)) (pss_one (ps_if (pt_cmpR op_gt (pe_dget (hu_of hr) (pv 4) (pv 6) (fun _ _ => rfl)) (pv 2) (nomark _)) (pss_one (ps_ret (pv 6))) pss_nil)))
    (pss_one (ps_ret (pe_un un_neg pe_int)))))), ?_⟩
    obtain ⟨p, q, s, l, row, rfl, hp, hq, hl, hn, k⟩ := h
    have l1 : (nv l).length = l.length := List.length_map _
    have l2 : (nv row).length = row.length := List.length_map _
    refine fun d nd => ?_
    have e1 : Ex H (upd H d (.dK [])) := Ex.new nd
    have d1 : (upd H d (.dK [])) d = some (.dK []) := upd_same
    show tSeq _ _ _ _ (upd H d (.dK []))
    generalize upd H d (.dK []) = H1 at e1 d1
    refine ⟨_, rfl, _, rfl, p, q, _, _, rfl, ex_l e1 hp, ex_l e1 hq, for_it (walk_zip (n := l.length) (by rw [l1, l2]; omega))
      (fun m σ' H' => Ex H H' ∧ (∃ kvs ks, FD s ((l.zip row).take m) H' d kvs ks) ∧ ∃ v5 v6, σ' = [some (.ref p), some (.ref q), some (.int (s.bar : Int)), some (.int (s.loss : Int)), some (.ref d), v5, v6])
      ⟨e1, ⟨[], [], d1, rfl, fun k => rfl, List.nodup_nil, fun x => by simp⟩, _, _, rfl⟩ (fun m σ' H' _ q => ⟨ex_l q.1 hp, ex_l q.1 hq⟩) ?_ ?_⟩
    · rintro m x σ' H' H3 hm ⟨e, ⟨kvs, ks, F⟩, v5, v6, rfl⟩ y
      obtain ⟨U, z1, z2, rfl, hU, rfl, ez1, ez2⟩ := y
      have hn1 : l[m]? = some (l[m]'hm) := List.getElem?_eq_getElem _
      have hn2 : row[m]? = some (row[m]'(by omega)) := List.getElem?_eq_getElem _
      generalize l[m]'hm = n at hn1
      generalize row[m]'(by omega) = kk at hn2
      have ez1 : z1 = V.int (n : Int) := Option.some.inj ((ez1 : (nv l)[m]? = some z1).symm.trans (by show (nv l)[m]? = _; rw [List.getElem?_map, hn1]; rfl))
      have ez2 : z2 = V.int (kk : Int) := Option.some.inj ((ez2 : (nv row)[m]? = some z2).symm.trans (by show (nv row)[m]? = _; rw [List.getElem?_map, hn2]; rfl))
      subst ez1 ez2
      have hz : (l.zip row)[m]? = some (n, kk) := by rw [List.getElem?_zip_eq_some]; exact ⟨hn1, hn2⟩
      have eU : Ex H' (upd H' U (.tup [V.int (n : Int), V.int (kk : Int)])) := Ex.new hU
      refine ⟨U, _, rfl, st_of upd_same, rfl, _, _, rfl, _, _, rfl, rfl, ?_⟩
      have F3 := F.mono eU
      have e3 := e.trans eU
      show sDPut _ _ _ _ _ (upd H' U (.tup [V.int (n : Int), V.int (kk : Int)]))
      generalize upd H' U (.tup [V.int (n : Int), V.int (kk : Int)]) = H3 at F3 e3
      have kl : kvs.length < sizeLine := by
        have h1 := congrArg List.length F.key
        rw [List.length_map, List.length_map] at h1
        have h2 := nodup_len F.nd (w := ((l.zip row).take m).map fun (x : Nat × Nat) => x.2) fun a ha => (F.mem a).mp ha
        rw [List.length_map, List.length_take] at h2
        exact sz_lt (by omega)
      refine x_dput (k := (kk : Int)) (v := .int (valOn s ((l.zip row).take m) kk + (n : Int) + (s.loss : Int))) (ev_op (ev_op (ev_is (ev_dget2K (k := (kk : Int)) (ev_var rfl) (ev_var rfl) (ev_op ev_c (ev_var rfl) rv_I0) F3.dk) (F3.get kk)) (ev_var rfl) rv_I0) (ev_var rfl) rv_I0) (ev_var rfl) (ev_var rfl) F3.dk kl fun H4 e4 => ?_
      have F4 := (F3.mono e4).put (n, kk)
      rw [← take_snoc hz] at F4
      exact ⟨Ex.mut (e3.trans e4) nd, ⟨_, _, F4⟩, _, _, rfl⟩
    · rintro σ' H' ⟨e, ⟨kvs, ks, F⟩, v5, v6, rfl⟩
      rw [List.take_of_length_le (by rw [List.length_zip]; omega)] at F
      have zs : (l.zip row).map (fun (x : Nat × Nat) => x.2) = row := List.map_snd_zip (by omega)
      have Fm := F.mem
      rw [zs] at Fm
      refine q_forNL (xs := nv (bnums row)) (el_keys (ev_var rfl) F.dk F.key F.nd Fm)
        (fun r i σ' H2 => Ex H' H2 ∧ H2 r = some (.lst (nv (bnums row))) ∧ (∀ j k, j < i → (bnums row)[j]? = some k → decide (s.bar < GlaLead.filled s (onBar (l.zip row) k)) = false) ∧ ∃ v5 v6, σ' = [some (.ref p), some (.ref q), some (.int (s.bar : Int)), some (.int (s.loss : Int)), some (.ref d), v5, v6])
        (fun r H2 nr e2 h2 => ⟨e2, h2, fun j k hj => by omega, _, _, rfl⟩) (fun r i σ' H2 _ q => sq_of q.2.1) ?_ ?_
      · rintro r i x σ' H2 hi ⟨e2, hr2, hb, v5, v6, rfl⟩
        rw [List.getElem?_map] at hi
        obtain ⟨kk, hk, rfl⟩ := Option.map_eq_some_iff.mp hi
        have km : kk ∈ (l.zip row).map (fun (x : Nat × Nat) => x.2) := by
          rw [zs]
          exact bnums_mem.mp (List.mem_of_getElem? hk)
        have fv := F.val kk
        rw [if_pos km, valOn_filled s km] at fv
        refine s_when (b := decide ((GlaLead.filled s (onBar (l.zip row) kk) : Int) > (s.bar : Int))) (et_test (ev_op (ev_dgetK (k := (kk : Int)) (ev_var rfl) (ev_var rfl) (e2 _ _ F.dk) fv) (ev_var rfl) rv_I0)) (fun tb H3 e3 => ?_) (fun tb H3 e3 => ?_)
        · have tb := of_decide_eq_true tb
          have fd : GlaLead.overFull s l row = some kk := by
            rw [over_eq, List.find?_eq_some_iff_getElem]
            obtain ⟨lt, ey⟩ := List.getElem?_eq_some_iff.mp hk
            refine ⟨by rw [decide_eq_true_iff]; omega, i, lt, ey, fun j hj => ?_⟩
            rw [hb j _ hj (List.getElem?_eq_getElem (by omega))]
            rfl
          unfold overZ at k
          rw [fd] at k
          exact s_ret (ev_var rfl) fun H4 e4 => k H4 (((e.trans e2).trans e3).trans e4)
        · have tb := of_decide_eq_false tb
          refine ⟨e2.trans e3, e3 _ _ hr2, fun j k' hj hk' => ?_, _, _, rfl⟩
          by_cases c : j < i
          · exact hb j k' c hk'
          · have : j = i := by omega
            subst this
            rw [hk] at hk'
            rw [← Option.some.inj hk', decide_eq_false_iff_not]
            omega
      · rintro r σ' H2 ⟨e2, hr2, hb, v5, v6, rfl⟩
        rw [List.length_map] at hb
        have fd : GlaLead.overFull s l row = none := by
          rw [over_eq, List.find?_eq_none]
          intro x hx
          obtain ⟨j, hj⟩ := List.getElem?_of_mem hx
          rw [hb j x (List.getElem?_eq_some_iff.mp hj).1 hj]
          decide
        unfold overZ at k
        rw [fd] at k
        exact s_ret (ev_un ev_c ru_neg) fun H4 e4 => k H4 ((e.trans e2).trans e4)
end
end Lead
namespace Lead
open PySem PySem.Spec PyProof.Rows L2 Evl LeadT
open GlaPlan
/-! ### judge -/
abbrev gJudge (row : List Nat) : GlaLead.LeadShop → Plan → LeadSpec.Answer := fun s S => if row.length ≠ (GlaLead.lengths s S).length then .refused [-2] else match GlaLead.overFull s (GlaLead.lengths s S) row with
  | some k => .over k
  | none => .done
def spJudge (K : PySem.W.Frag) : Sp := fun vs H Q _ => ∃ (c d : Addr) (s : GlaLead.LeadShop) (b : List UInt8) (row : List Nat), vs = [.int (s.a : Int), .int (s.b : Int), .int (s.bar : Int), .int (s.joint : Int), .int (s.loss : Int), .ref c, .ref d] ∧ SqL K H c (bz b) ∧ SqL K H d (nv row) ∧ row.length ≤ 2000 ∧ GlaBase.num b 12 2 ≤ 200 ∧
  ∀ p H', H p = none → Ex H H' → H' p = some (.lst ((ansF (gJudge row) s b).map V.int)) → Q (.ref p) H'
section
variable {P : Program} {w : World} {K : PySem.W.Frag} {mg : Str → Option Value} {base : Heap}
variable {H : Hp} {σ : L2.St} {ta tb te : TE} {D : Ends} {tz : TS}
theorem el_lens' {p : Addr} {ns : List Nat} {E : XK} (h : Ev ta σ H (.ref p)) (hp : PLn K H p ns) (hn : ns.length ≤ 40000) : EvL (tCall (spLens K) [] E (tCons ta tNil)) σ H (nv ns) := el_call (ea_cons h ea_nil) fun H1 e Q q E => ⟨p, ns, rfl, hp.mono e, hn, q⟩
theorem ev_over {s : GlaLead.LeadShop} {l row : List Nat} {d : Addr} {t2 t3 t4 : TE} {E : XK} (h : EvL te σ H (nv l)) (h2 : Ev t2 σ H (.ref d)) (h3 : Ev t3 σ H (.int (s.bar : Int))) (h4 : Ev t4 σ H (.int (s.loss : Int))) (hd : SqL K H d (nv row)) (hl : l.length = row.length) (hn : l.length ≤ 40000) :
    Ev (tCall (spOver K) [] E (tCons te (tCons t2 (tCons t3 (tCons t4 tNil))))) σ H (.int (overZ s l row)) := fun H1 e Q q =>
  h H1 e _ fun p H2 np e2 hp => h2 H2 (e.trans e2) _ fun H3 e3 => h3 H3 ((e.trans e2).trans e3) _ fun H4 e4 => h4 H4 (((e.trans e2).trans e3).trans e4) _ fun H5 e5 =>
    ⟨p, d, s, l, row, rfl, sq_of (e5 _ _ (e4 _ _ (e3 _ _ hp))), ex_l ((((e.trans e2).trans e3).trans e4).trans e5) hd, hl, hn, fun H6 e6 => q H6 ((((e2.trans e3).trans e4).trans e5).trans e6)⟩
theorem ok_judge (T : Txt K mg) : FnOk P w K mg base CX0 11 T.judge.f T.judge.fd ["a", "b", "bar", "joint", "loss", "cartoon", "row"] (spJudge K) := by
  refine T.judge.F.ok sc_judge (fun vs H Q E h => ?_) (fun cdv A outer s H vs Q E hr h => ?_)
  · obtain ⟨c, d, s, b, row, rfl, _⟩ := h
    rfl
  · refine ⟨_, (pss_cons (ps_asg (pe_call (ok_opened T) (hr.mono (by decide)) rfl T.opened.g T.opened.F.kp T.opened.b .nil pass0 (pa_cons (pe_call (ok_is_shop T) (hr.mono (by decide)) rfl T.is_shop.g T.is_shop.F.kp T.is_shop.b .nil pass0 (pa_cons (pv 0) (pa_cons (pv 1) (pa_cons (pv 2) (pa_cons (pv 3) (pa_cons (pv 4) pa_nil)))))) (pa_cons (pv 5) pa_nil))) (pg_tup rfl (pgs_cons (pg_name (i := 7) sc_judge.nd rfl (Or.inl rfl)) (pgs_cons (pg_name (i := 8) sc_judge.nd rfl (Or.inl rfl)) pgs_nil))))
    (pss_cons (ps_if (pt_cmpR (op_neD (hu64 hr)) (pv 7) (pe_lst pa_nil) (nomark _)) (pss_one (ps_ret (pv 7))) pss_nil)
    (pss_cons (ps_asg (pe_call (ok_cut T) (hr.mono (by decide)) rfl T.cut.g T.cut.F.kp T.cut.b .nil pass0 (pa_cons (pv 8) (pa_cons (pv 0) (pa_cons (pv 1) (pa_cons (pv 2) (pa_cons (pv 3) pa_nil)))))) (pg_tup rfl (pgs_cons (pg_name (i := 7) sc_judge.nd rfl (Or.inl rfl)) (pgs_cons (pg_name (i := 9) sc_judge.nd rfl (Or.inl rfl)) pgs_nil))))
    (pss_cons (ps_if (pt_cmpR (op_neD (hu64 hr)) (pv 7) (pe_lst pa_nil) (nomark _)) (pss_one (ps_ret (pv 7))) pss_nil)
    (pss_cons (ps_if (pt_cmpR op_ne (pe_callB call_len_seq (by rfl) T.n_len PySem.boot_len (pa_cons (pv 6) pa_nil)) (pe_callB call_len_seq (by rfl) T.n_len PySem.boot_len (pa_cons (pv 9) pa_nil)) (nomark _)) (pss_one (ps_ret (pe_lst (pa_cons (pe_glob (v := .int (-2)) rfl T.c_OTHER_BARS.choose_spec ⟨_, rfl⟩) pa_nil)))) pss_nil)
    (pss_cons (ps_set (i := 10) sc_judge.nd rfl (.inl rfl) (pe_call (ok_overfull T) (hr.mono (by decide)) rfl T.overfull.g T.overfull.F.kp T.overfull.b .nil pass0 (pa_cons (pe_call (ok_lengths_of T) (hr.mono (by decide)) rfl T.lengths_of.g T.lengths_of.F.kp T.lengths_of.b .nil pass0 (pa_cons (pv 9) pa_nil)) (pa_cons (pv 6) (pa_cons (pv 2) (pa_cons (pv 4) pa_nil))))))
    (pss_cons (ps_if (pt_cmpR op_lt (pv 10) pe_int (nomark _)) (pss_one (ps_ret (pe_lst (pa_cons (pe_glob (v := .int (0)) rfl T.c_DONE.choose_spec ⟨_, rfl⟩) pa_nil)))) pss_nil)
    (pss_one (ps_ret (pe_lst (pa_cons (pe_glob (v := .int (0)) rfl T.c_DONE.choose_spec ⟨_, rfl⟩) (pa_cons pe_int (pa_cons (pv 10) pa_nil))))))))))))), ?_⟩
    obtain ⟨c, rw_, s, b, row, rfl, hc, hrow, hrl, few, k⟩ := h
    unfold ansF at k
    refine ⟨_, rfl, _, rfl, _, rfl, _, rfl, _, rfl, s, rfl, fun H0 e0 => ⟨_, rfl, ?_⟩⟩
    refine ⟨c, s.ok, b, rfl, ex_l e0 hc, fun l hl hne t r H1 nr e1 ht hr' => ?_, fun S hS P10 hp t r a H1 e1 ht hr' hD => ?_⟩
    · refine ⟨t, _, rfl, st_of ht, rfl, _, _, rfl, _, _, rfl, rfl, ?_⟩
      rw [hl] at k
      refine q_when (et_refused (l := l) (ev_var rfl) (sq_of hr')) (fun tb H2 e2 => ?_) (fun tb H2 e2 => ?_)
      · exact s_ret (ev_var rfl) fun H3 e3 => k r H3 (fresh_back e0 nr) (((e0.trans e1).trans e2).trans e3) (e3 _ _ (e2 _ _ hr'))
      · simp at tb
        exact absurd tb hne
    · refine ⟨t, _, rfl, st_of ht, rfl, _, _, rfl, _, _, rfl, rfl, ?_⟩
      rw [hS] at k
      dsimp only at k
      have e01 := e0.trans e1
      refine q_when (et_refused (l := []) (ev_var rfl) (sq_of hr')) (fun tb H2 e2 => ?_) (fun tb H2 e2 => ?_)
      · simp at tb
      have e02 := e01.trans e2
      have n200 : S.pts.length ≤ 200 := by
        rw [hp, (parts_len b).1]
        exact few
      refine ⟨_, rfl, _, rfl, _, rfl, _, rfl, _, rfl, a, b.length, S, s, rfl, hD.mono e2, P10, n200, fun i hi t2 r2 o H3 nr2 e3 ht2 hr2 => ?_, fun ok t2 r2 p ts H3 ht2 hr2 hPS => ?_⟩
      · refine ⟨t2, _, rfl, st_of ht2, rfl, _, _, rfl, _, _, rfl, rfl, ?_⟩
        rw [hi] at k
        refine q_when (et_refused (l := [-3, (i : Int)]) (ev_var rfl) (sq_of hr2)) (fun tb H4 e4 => ?_) (fun tb H4 e4 => ?_)
        · exact s_ret (ev_var rfl) fun H5 e5 => k r2 H5 (fresh_back e02 nr2) (((e02.trans e3).trans e4).trans e5) (e5 _ _ (e4 _ _ hr2))
        · simp at tb
      · refine ⟨t2, _, rfl, st_of ht2, rfl, _, _, rfl, _, _, rfl, rfl, ?_⟩
        rw [ok] at k
        dsimp only at k
        refine q_when (et_refused (l := []) (ev_var rfl) (sq_of hr2)) (fun tb H4 e4 => ?_) (fun tb H4 e4 => ?_)
        · simp at tb
        have hPS := hPS.mono e4
        have nl := P10.p.t.2.1
        obtain ⟨n1, n2⟩ := pieces_len (s := s) P10
        have ll : (GlaLead.lengths s S).length = (GlaLead.pieces s S).length := List.length_map _
        have lr : (nv row).length = row.length := List.length_map _
        have lt : (ts.map V.ref).length = (GlaLead.pieces s S).length := by rw [List.length_map, hPS.el]
        have e04 := e02.trans hPS.ex
        refine q_when (et_test (ev_op (ev_lenL (ev_var rfl) (ex_l e04 hrow)) (ev_lenL (ev_var rfl) (sq_of hPS.pl)) rv_neI)) (fun tb H5 e5 => ?_) (fun tb H5 e5 => ?_)
        · rw [lr, lt] at tb
          have ne : row.length ≠ (GlaLead.lengths s S).length := by
            rw [ll]
            simp at tb
            omega
          rw [show gJudge row s S = .refused [-2] by unfold gJudge; rw [if_pos ne]] at k
          exact s_retL (el_lst (ea_cons ev_c ea_nil) (by show 1 ≤ 100000; decide)) fun o H6 no e6 h6 => k o H6 (fresh_back (e04.trans e5) no) ((e04.trans e5).trans e6) h6
        · rw [lr, lt] at tb
          have eq : ¬ row.length ≠ (GlaLead.lengths s S).length := by
            rw [ll]
            simp at tb
            omega
          have k : ∀ p H', H p = none → Ex H H' → H' p = some (.lst ((Neutral.told (match GlaLead.overFull s (GlaLead.lengths s S) row with | some k => .over k | none => .done)).map V.int)) → Q (.ref p) H' := by
            have : gJudge row s S = (match GlaLead.overFull s (GlaLead.lengths s S) row with | some k => .over k | none => .done) := by unfold gJudge; rw [if_neg eq]
            rw [this] at k
            exact k
          have hPS5 := hPS.mono e5
          have e05 := e04.trans e5
          refine q_asg (ev_over (s := s) (l := GlaLead.lengths s S) (row := row) (el_lens' (ns := GlaLead.lengths s S) (ev_var rfl) hPS5.pln (by omega)) (ev_var rfl) (ev_var rfl) (ev_var rfl) (ex_l e05 hrow) (by omega) (by omega)) fun H6 e6 => ?_
          have e06 := e05.trans e6
          unfold overZ
          cases fo : GlaLead.overFull s (GlaLead.lengths s S) row with
          | none =>
            rw [fo] at k
            refine q_when (b := true) (et_is (et_test (ev_op (ev_var rfl) ev_c rv_I0)) rfl) (fun _ H7 e7 => ?_) (fun tb => by cases tb)
            exact s_retL (el_lst (ea_cons ev_c ea_nil) (by show 1 ≤ 100000; decide)) fun o H8 no e8 h8 => k o H8 (fresh_back (e06.trans e7) no) ((e06.trans e7).trans e8) h8
          | some kk =>
            rw [fo] at k
            refine q_when (b := false) (et_is (et_test (ev_op (ev_var rfl) ev_c rv_I0)) ?_) (fun tb => by cases tb) (fun _ H7 e7 => ?_)
            · rw [decide_eq_false_iff_not]
              show ¬ ((kk : Int) < 0)
              omega
            · exact s_retL (el_lst (ea_cons ev_c (ea_cons ev_c (ea_cons (ev_var rfl) ea_nil))) (by show 3 ≤ 100000; decide)) fun o H8 no e8 h8 => k o H8 (fresh_back (e06.trans e7) no) ((e06.trans e7).trans e8) h8
end
end Lead
namespace Lead
open PySem PySem.Spec PyProof.Rows L2 Evl LeadT
open GlaPlan
/-! ### the arguments -/
theorem nats_of : ∀ row : List Nat, (iz row).mapM Neutral.nat = some row
  | [] => rfl
  | n :: row => by
    have e : iz (n :: row) = (n : Int) :: iz row := rfl
    rw [e, List.mapM_cons, nat_of, nats_of row]
    rfl
theorem call_judge (s : GlaLead.LeadShop) (b : List UInt8) (row : List Nat) : Neutral.callOf [[4, (s.a : Int), (s.b : Int), (s.bar : Int), (s.joint : Int), (s.loss : Int)], b.map fun (c : UInt8) => ((c.toNat : Nat) : Int), iz row] = some (.judge b s row) := by
  show (do some (LeadSpec.Call.judge (← Neutral.bytes (b.map fun (c : UInt8) => ((c.toNat : Nat) : Int))) (← Neutral.shop (s.a : Int) (s.b : Int) (s.bar : Int) (s.joint : Int) (s.loss : Int)) (← (iz row).mapM Neutral.nat))) = _
  unfold Neutral.shop
  rw [bytes_of, nat_of, nat_of, nat_of, nat_of, nat_of, nats_of]
  rfl
theorem spec_judge (s : GlaLead.LeadShop) (b : List UInt8) (row : List Nat) : PyYqglca.judge s.a s.b s.bar s.joint s.loss (b.map fun (c : UInt8) => ((c.toNat : Nat) : Int)) (iz row) = ansF (gJudge row) s b := by
  show (match Neutral.callOf [[4, (s.a : Int), (s.b : Int), (s.bar : Int), (s.joint : Int), (s.loss : Int)], b.map fun (c : UInt8) => ((c.toNat : Nat) : Int), iz row] with
    | some x => Neutral.told (LeadSpec.answer x)
    | none => []) = _
  rw [call_judge]
  exact answer_fits s b (gJudge row)
theorem few_judge {s : GlaLead.LeadShop} {b : List UInt8} {row : List Nat} (h : PyYqglca.judge_asked s.a s.b s.bar s.joint s.loss (b.map fun (c : UInt8) => ((c.toNat : Nat) : Int)) (iz row) = true) : GlaBase.num b 12 2 ≤ 200 := by
  unfold PyYqglca.judge_asked Neutral.asked at h
  rw [Bool.and_eq_true, Bool.and_eq_true] at h
  have h2 := h.2.2
  rw [List.all_cons, Bool.and_eq_true] at h2
  have h3 := h2.1
  unfold Neutral.fits at h3
  rw [call_judge] at h3
  have h4 : (some (Neutral.few b) == some true) = true := h3
  have h5 : Neutral.few b = true := by
    cases q : Neutral.few b with
    | true => rfl
    | false =>
      rw [q] at h4
      cases h4
  exact of_decide_eq_true h5
theorem nat_row : ∀ {r : List Int}, (∀ z ∈ r, 0 ≤ z) → ∃ row : List Nat, r = iz row ∧ row.length = r.length
  | [], _ => ⟨[], rfl, rfl⟩
  | z :: r, h => by
    obtain ⟨row, e, l⟩ := nat_row (r := r) fun y hy => h y (by simp [hy])
    have z0 := h z (by simp)
    refine ⟨z.toNat :: row, ?_, by rw [List.length_cons, List.length_cons, l]⟩
    show z :: r = ((z.toNat : Nat) : Int) :: iz row
    rw [← e, Int.toNat_of_nonneg z0]
theorem s04_args {K : PySem.W.Frag} {H : Hp} {Q : VK} {E : XK} {a b bar joint loss : Int} {l r : List Int} {c d : Addr} (h0 : 0 ≤ a ∧ 0 ≤ b ∧ 0 ≤ bar ∧ 0 ≤ joint ∧ 0 ≤ loss) (hl : ∀ z ∈ l, 0 ≤ z ∧ z ≤ 255) (hr : ∀ z ∈ r, 0 ≤ z) (hn : r.length ≤ 2000) (ask : PyYqglca.judge_asked a b bar joint loss l r = true) (hs : SqL K H c (l.map V.int)) (hd : SqL K H d (r.map V.int))
    (k : ∀ H' p, H' p = some (.lst ((PyYqglca.judge a b bar joint loss l r).map V.int)) → Q (.ref p) H') : spJudge K [.int a, .int b, .int bar, .int joint, .int loss, .ref c, .ref d] H Q E := by
  obtain ⟨a, rfl⟩ : ∃ n : Nat, a = (n : Int) := ⟨a.toNat, by omega⟩
  obtain ⟨b, rfl⟩ : ∃ n : Nat, b = (n : Int) := ⟨b.toNat, by omega⟩
  obtain ⟨bar, rfl⟩ : ∃ n : Nat, bar = (n : Int) := ⟨bar.toNat, by omega⟩
  obtain ⟨joint, rfl⟩ : ∃ n : Nat, joint = (n : Int) := ⟨joint.toNat, by omega⟩
  obtain ⟨loss, rfl⟩ : ∃ n : Nat, loss = (n : Int) := ⟨loss.toNat, by omega⟩
  obtain ⟨row, rfl, rl⟩ := nat_row hr
  have e := byt_back hl
  have sp := spec_judge ⟨a, b, bar, joint, loss⟩ (byt l) row
  rw [e] at sp
  refine ⟨c, d, ⟨a, b, bar, joint, loss⟩, byt l, row, rfl, by rw [bz_byt hl]; exact hs, by rw [← iz_nv]; exact hd, by omega, few_judge (s := ⟨a, b, bar, joint, loss⟩) (row := row) (by rw [e]; exact ask), fun p H' np e hp => k H' p ?_⟩
  rw [← sp] at hp
  exact hp
abbrev spS04 (K : PySem.W.Frag) : Sp := spJudge K
end Lead
namespace Lead
open PySem PySem.Spec PyProof.Rows L2 Evl LeadT
theorem exm_self {K : PySem.W.Frag} {S : Addr} (h1 : PySem.W.subIn K (.ref S) (.type "BaseException") = some true) (h2 : PySem.W.isClsIn K S = true) (h3 : PySem.W.typeIn K (.ref S) = some (.type "type")) (h4 : PySem.W.subIn K (.ref S) (.ref S) = some true) : PySem.W.exmOne K (.ref S) (.ref S) = some true := by
  have e1 : (PySem.W.subIn K (.ref S) (.type "BaseException") == some true) = true := by rw [h1] <;> rfl
  have e2 : ((PySem.W.clsIn K S).isSome && PySem.W.typeIn K (.ref S) == some (.type "type")) = true := by
    have h2' : (PySem.W.clsIn K S).isSome = true := h2
    rw [h2', h3] <;> rfl
  show (if (PySem.W.subIn K (.ref S) (.type "BaseException") == some true) = true then (if ((PySem.W.clsIn K S).isSome && PySem.W.typeIn K (.ref S) == some (.type "type")) = true then PySem.W.subIn K (.ref S) (.ref S) else none) else none) = some true
  rw [if_pos e1, if_pos e2]
  exact h4
theorem all_mk {P : Program} {w : World} {K : PySem.W.Frag} {h : Heap} {mg : Str → Option Value} {fa : Addr} (X : K.In h) (G : h.Ns mainGlobals mg) (hfa : mg "judge" = some (.ref fa))
    {f_turn : Addr}
    {od_turn an_turn : Option Addr}
    {sl_turn : Array (Option Value)}
    {oc_turn kV_turn dc_turn pm_turn cd_turn ct_turn : Value}
    {f_onward : Addr}
    {od_onward an_onward : Option Addr}
    {sl_onward : Array (Option Value)}
    {oc_onward kV_onward dc_onward pm_onward cd_onward ct_onward : Value}
    {f_is_between : Addr}
    {od_is_between an_is_between : Option Addr}
    {sl_is_between : Array (Option Value)}
    {oc_is_between kV_is_between dc_is_between pm_is_between cd_is_between ct_is_between : Value}
    {f_is_on : Addr}
    {od_is_on an_is_on : Option Addr}
    {sl_is_on : Array (Option Value)}
    {oc_is_on kV_is_on dc_is_on pm_is_on cd_is_on ct_is_on : Value}
    {f_are_apart : Addr}
    {od_are_apart an_are_apart : Option Addr}
    {sl_are_apart : Array (Option Value)}
    {oc_are_apart kV_are_apart dc_are_apart pm_are_apart cd_are_apart ct_are_apart : Value}
    {f_cross : Addr}
    {od_cross an_cross : Option Addr}
    {sl_cross : Array (Option Value)}
    {oc_cross kV_cross dc_cross pm_cross cd_cross ct_cross : Value}
    {f_comes_behind : Addr}
    {od_comes_behind an_comes_behind : Option Addr}
    {sl_comes_behind : Array (Option Value)}
    {oc_comes_behind kV_comes_behind dc_comes_behind pm_comes_behind cd_comes_behind ct_comes_behind : Value}
    {f_root_of : Addr}
    {od_root_of an_root_of : Option Addr}
    {sl_root_of : Array (Option Value)}
    {oc_root_of kV_root_of dc_root_of pm_root_of cd_root_of ct_root_of : Value}
    {f_distance : Addr}
    {od_distance an_distance : Option Addr}
    {sl_distance : Array (Option Value)}
    {oc_distance kV_distance dc_distance pm_distance cd_distance ct_distance : Value}
    {f_number_at : Addr}
    {od_number_at an_number_at : Option Addr}
    {sl_number_at : Array (Option Value)}
    {oc_number_at kV_number_at dc_number_at pm_number_at cd_number_at ct_number_at : Value}
    {f_ask : Addr}
    {od_ask an_ask : Option Addr}
    {sl_ask : Array (Option Value)}
    {oc_ask kV_ask dc_ask pm_ask cd_ask ct_ask : Value}
    {f_check_head : Addr}
    {od_check_head an_check_head : Option Addr}
    {sl_check_head : Array (Option Value)}
    {oc_check_head kV_check_head dc_check_head pm_check_head cd_check_head ct_check_head : Value}
    {f_drawing_of : Addr}
    {od_drawing_of an_drawing_of : Option Addr}
    {sl_drawing_of : Array (Option Value)}
    {oc_drawing_of kV_drawing_of dc_drawing_of pm_drawing_of cd_drawing_of ct_drawing_of : Value}
    {f_check_points : Addr}
    {od_check_points an_check_points : Option Addr}
    {sl_check_points : Array (Option Value)}
    {oc_check_points kV_check_points dc_check_points pm_check_points cd_check_points ct_check_points : Value}
    {f_check_lines : Addr}
    {od_check_lines an_check_lines : Option Addr}
    {sl_check_lines : Array (Option Value)}
    {oc_check_lines kV_check_lines dc_check_lines pm_check_lines cd_check_lines ct_check_lines : Value}
    {f_edges_of : Addr}
    {od_edges_of an_edges_of : Option Addr}
    {sl_edges_of : Array (Option Value)}
    {oc_edges_of kV_edges_of dc_edges_of pm_edges_of cd_edges_of ct_edges_of : Value}
    {f_check_frame : Addr}
    {od_check_frame an_check_frame : Option Addr}
    {sl_check_frame : Array (Option Value)}
    {oc_check_frame kV_check_frame dc_check_frame pm_check_frame cd_check_frame ct_check_frame : Value}
    {f_is_free : Addr}
    {od_is_free an_is_free : Option Addr}
    {sl_is_free : Array (Option Value)}
    {oc_is_free kV_is_free dc_is_free pm_is_free cd_is_free ct_is_free : Value}
    {f_check_crossings : Addr}
    {od_check_crossings an_check_crossings : Option Addr}
    {sl_check_crossings : Array (Option Value)}
    {oc_check_crossings kV_check_crossings dc_check_crossings pm_check_crossings cd_check_crossings ct_check_crossings : Value}
    {f_neighbours_of : Addr}
    {od_neighbours_of an_neighbours_of : Option Addr}
    {sl_neighbours_of : Array (Option Value)}
    {oc_neighbours_of kV_neighbours_of dc_neighbours_of pm_neighbours_of cd_neighbours_of ct_neighbours_of : Value}
    {f_reached : Addr}
    {od_reached an_reached : Option Addr}
    {sl_reached : Array (Option Value)}
    {oc_reached kV_reached dc_reached pm_reached cd_reached ct_reached : Value}
    {f_check_ways : Addr}
    {od_check_ways an_check_ways : Option Addr}
    {sl_check_ways : Array (Option Value)}
    {oc_check_ways kV_check_ways dc_check_ways pm_check_ways cd_check_ways ct_check_ways : Value}
    {f_check_drawing : Addr}
    {od_check_drawing an_check_drawing : Option Addr}
    {sl_check_drawing : Array (Option Value)}
    {oc_check_drawing kV_check_drawing dc_check_drawing pm_check_drawing cd_check_drawing ct_check_drawing : Value}
    {f_away : Addr}
    {od_away an_away : Option Addr}
    {sl_away : Array (Option Value)}
    {oc_away kV_away dc_away pm_away cd_away ct_away : Value}
    {f_area : Addr}
    {od_area an_area : Option Addr}
    {sl_area : Array (Option Value)}
    {oc_area kV_area dc_area pm_area cd_area ct_area : Value}
    {f_half : Addr}
    {od_half an_half : Option Addr}
    {sl_half : Array (Option Value)}
    {oc_half kV_half dc_half pm_half cd_half ct_half : Value}
    {f_is_sooner : Addr}
    {od_is_sooner an_is_sooner : Option Addr}
    {sl_is_sooner : Array (Option Value)}
    {oc_is_sooner kV_is_sooner dc_is_sooner pm_is_sooner cd_is_sooner ct_is_sooner : Value}
    {f_next_point : Addr}
    {od_next_point an_next_point : Option Addr}
    {sl_next_point : Array (Option Value)}
    {oc_next_point kV_next_point dc_next_point pm_next_point cd_next_point ct_next_point : Value}
    {f_outline_from : Addr}
    {od_outline_from an_outline_from : Option Addr}
    {sl_outline_from : Array (Option Value)}
    {oc_outline_from kV_outline_from dc_outline_from pm_outline_from cd_outline_from ct_outline_from : Value}
    {f_sides_of : Addr}
    {od_sides_of an_sides_of : Option Addr}
    {sl_sides_of : Array (Option Value)}
    {oc_sides_of kV_sides_of dc_sides_of pm_sides_of cd_sides_of ct_sides_of : Value}
    {f_is_to_left : Addr}
    {od_is_to_left an_is_to_left : Option Addr}
    {sl_is_to_left : Array (Option Value)}
    {oc_is_to_left kV_is_to_left dc_is_to_left pm_is_to_left cd_is_to_left ct_is_to_left : Value}
    {f_outlines_of : Addr}
    {od_outlines_of an_outlines_of : Option Addr}
    {sl_outlines_of : Array (Option Value)}
    {oc_outlines_of kV_outlines_of dc_outlines_of pm_outlines_of cd_outlines_of ct_outlines_of : Value}
    {f_is_passed : Addr}
    {od_is_passed an_is_passed : Option Addr}
    {sl_is_passed : Array (Option Value)}
    {oc_is_passed kV_is_passed dc_is_passed pm_is_passed cd_is_passed ct_is_passed : Value}
    {f_is_in : Addr}
    {od_is_in an_is_in : Option Addr}
    {sl_is_in : Array (Option Value)}
    {oc_is_in kV_is_in dc_is_in pm_is_in cd_is_in ct_is_in : Value}
    {f_pane_of : Addr}
    {od_pane_of an_pane_of : Option Addr}
    {sl_pane_of : Array (Option Value)}
    {oc_pane_of kV_pane_of dc_pane_of pm_pane_of cd_pane_of ct_pane_of : Value}
    {f_is_on_line : Addr}
    {od_is_on_line an_is_on_line : Option Addr}
    {sl_is_on_line : Array (Option Value)}
    {oc_is_on_line kV_is_on_line dc_is_on_line pm_is_on_line cd_is_on_line ct_is_on_line : Value}
    {f_check_marks : Addr}
    {od_check_marks an_check_marks : Option Addr}
    {sl_check_marks : Array (Option Value)}
    {oc_check_marks kV_check_marks dc_check_marks pm_check_marks cd_check_marks ct_check_marks : Value}
    {f_check_panes : Addr}
    {od_check_panes an_check_panes : Option Addr}
    {sl_check_panes : Array (Option Value)}
    {oc_check_panes kV_check_panes dc_check_panes pm_check_panes cd_check_panes ct_check_panes : Value}
    {f_cartoon_of : Addr}
    {od_cartoon_of an_cartoon_of : Option Addr}
    {sl_cartoon_of : Array (Option Value)}
    {oc_cartoon_of kV_cartoon_of dc_cartoon_of pm_cartoon_of cd_cartoon_of ct_cartoon_of : Value}
    {f_is_edge_line : Addr}
    {od_is_edge_line an_is_edge_line : Option Addr}
    {sl_is_edge_line : Array (Option Value)}
    {oc_is_edge_line kV_is_edge_line dc_is_edge_line pm_is_edge_line cd_is_edge_line ct_is_edge_line : Value}
    {f_leads_of : Addr}
    {od_leads_of an_leads_of : Option Addr}
    {sl_leads_of : Array (Option Value)}
    {oc_leads_of kV_leads_of dc_leads_of pm_leads_of cd_leads_of ct_leads_of : Value}
    {f_length_of : Addr}
    {od_length_of an_length_of : Option Addr}
    {sl_length_of : Array (Option Value)}
    {oc_length_of kV_length_of dc_length_of pm_length_of cd_length_of ct_length_of : Value}
    {f_other_end : Addr}
    {od_other_end an_other_end : Option Addr}
    {sl_other_end : Array (Option Value)}
    {oc_other_end kV_other_end dc_other_end pm_other_end cd_other_end ct_other_end : Value}
    {f_ending_at : Addr}
    {od_ending_at an_ending_at : Option Addr}
    {sl_ending_at : Array (Option Value)}
    {oc_ending_at kV_ending_at dc_ending_at pm_ending_at cd_ending_at ct_ending_at : Value}
    {f_pair_at : Addr}
    {od_pair_at an_pair_at : Option Addr}
    {sl_pair_at : Array (Option Value)}
    {oc_pair_at kV_pair_at dc_pair_at pm_pair_at cd_pair_at ct_pair_at : Value}
    {f_goes_through : Addr}
    {od_goes_through an_goes_through : Option Addr}
    {sl_goes_through : Array (Option Value)}
    {oc_goes_through kV_goes_through dc_goes_through pm_goes_through cd_goes_through ct_goes_through : Value}
    {f_is_ahead : Addr}
    {od_is_ahead an_is_ahead : Option Addr}
    {sl_is_ahead : Array (Option Value)}
    {oc_is_ahead kV_is_ahead dc_is_ahead pm_is_ahead cd_is_ahead ct_is_ahead : Value}
    {f_first_pair : Addr}
    {od_first_pair an_first_pair : Option Addr}
    {sl_first_pair : Array (Option Value)}
    {oc_first_pair kV_first_pair dc_first_pair pm_first_pair cd_first_pair ct_first_pair : Value}
    {f_pairs_at : Addr}
    {od_pairs_at an_pairs_at : Option Addr}
    {sl_pairs_at : Array (Option Value)}
    {oc_pairs_at kV_pairs_at dc_pairs_at pm_pairs_at cd_pairs_at ct_pairs_at : Value}
    {f_meets : Addr}
    {od_meets an_meets : Option Addr}
    {sl_meets : Array (Option Value)}
    {oc_meets kV_meets dc_meets pm_meets cd_meets ct_meets : Value}
    {f_join_at : Addr}
    {od_join_at an_join_at : Option Addr}
    {sl_join_at : Array (Option Value)}
    {oc_join_at kV_join_at dc_join_at pm_join_at cd_join_at ct_join_at : Value}
    {f_joins_of : Addr}
    {od_joins_of an_joins_of : Option Addr}
    {sl_joins_of : Array (Option Value)}
    {oc_joins_of kV_joins_of dc_joins_of pm_joins_of cd_joins_of ct_joins_of : Value}
    {f_trail : Addr}
    {od_trail an_trail : Option Addr}
    {sl_trail : Array (Option Value)}
    {oc_trail kV_trail dc_trail pm_trail cd_trail ct_trail : Value}
    {f_first_of_ring : Addr}
    {od_first_of_ring an_first_of_ring : Option Addr}
    {sl_first_of_ring : Array (Option Value)}
    {oc_first_of_ring kV_first_of_ring dc_first_of_ring pm_first_of_ring cd_first_of_ring ct_first_of_ring : Value}
    {f_strip_of : Addr}
    {od_strip_of an_strip_of : Option Addr}
    {sl_strip_of : Array (Option Value)}
    {oc_strip_of kV_strip_of dc_strip_of pm_strip_of cd_strip_of ct_strip_of : Value}
    {f_strips_of : Addr}
    {od_strips_of an_strips_of : Option Addr}
    {sl_strips_of : Array (Option Value)}
    {oc_strips_of kV_strips_of dc_strips_of pm_strips_of cd_strips_of ct_strips_of : Value}
    {f_check_lengths : Addr}
    {od_check_lengths an_check_lengths : Option Addr}
    {sl_check_lengths : Array (Option Value)}
    {oc_check_lengths kV_check_lengths dc_check_lengths pm_check_lengths cd_check_lengths ct_check_lengths : Value}
    {f_pieces_of_strip : Addr}
    {od_pieces_of_strip an_pieces_of_strip : Option Addr}
    {sl_pieces_of_strip : Array (Option Value)}
    {oc_pieces_of_strip kV_pieces_of_strip dc_pieces_of_strip pm_pieces_of_strip cd_pieces_of_strip ct_pieces_of_strip : Value}
    {f_pieces_of : Addr}
    {od_pieces_of an_pieces_of : Option Addr}
    {sl_pieces_of : Array (Option Value)}
    {oc_pieces_of kV_pieces_of dc_pieces_of pm_pieces_of cd_pieces_of ct_pieces_of : Value}
    {f_lengths_of : Addr}
    {od_lengths_of an_lengths_of : Option Addr}
    {sl_lengths_of : Array (Option Value)}
    {oc_lengths_of kV_lengths_of dc_lengths_of pm_lengths_of cd_lengths_of ct_lengths_of : Value}
    {f_overfull : Addr}
    {od_overfull an_overfull : Option Addr}
    {sl_overfull : Array (Option Value)}
    {oc_overfull kV_overfull dc_overfull pm_overfull cd_overfull ct_overfull : Value}
    {f_is_shop : Addr}
    {od_is_shop an_is_shop : Option Addr}
    {sl_is_shop : Array (Option Value)}
    {oc_is_shop kV_is_shop dc_is_shop pm_is_shop cd_is_shop ct_is_shop : Value}
    {f_opened : Addr}
    {od_opened an_opened : Option Addr}
    {sl_opened : Array (Option Value)}
    {oc_opened kV_opened dc_opened pm_opened cd_opened ct_opened : Value}
    {f_cut : Addr}
    {od_cut an_cut : Option Addr}
    {sl_cut : Array (Option Value)}
    {oc_cut kV_cut dc_cut pm_cut cd_cut ct_cut : Value}
    {f_judge : Addr}
    {od_judge an_judge : Option Addr}
    {sl_judge : Array (Option Value)}
    {oc_judge kV_judge dc_judge pm_judge cd_judge ct_judge : Value}
    {t_HEAD : Tok}
    {t_LEAST_SIDE : Tok}
    {t_GREATEST_SIDE : Tok}
    {t_POINT_BYTES : Tok}
    {t_LINE_BYTES : Tok}
    {t_MARK_BYTES : Tok}
    {t_LONE : Tok}
    {t_DONE : Tok}
    {t_NO_SHOP : Tok}
    {t_OTHER_BARS : Tok}
    {t_LEAD_TOO_LONG : Tok}
    {t_NO_CARTOON : Tok}
    {t_TOO_MANY_BYTES : Tok}
    {t_MOST_BYTES : Tok}
    {t_MOST_BEND : Tok}
    {t_MOST_BAR : Tok}
    {t_MOST_LOSS : Tok}
    {aM : Addr}
    {tM1 tM2 tM3 tM4 : Tok}
    {nM : Nat}
    {slM : Array (Option Value)}
    {aDrawing : Addr}
    {f_Drawing_init : Addr}
    {od_Drawing_init an_Drawing_init : Option Addr}
    {sl_Drawing_init : Array (Option Value)}
    {oc_Drawing_init kV_Drawing_init dc_Drawing_init pm_Drawing_init cd_Drawing_init ct_Drawing_init : Value}
    {f_Drawing_line_base : Addr}
    {od_Drawing_line_base an_Drawing_line_base : Option Addr}
    {sl_Drawing_line_base : Array (Option Value)}
    {oc_Drawing_line_base kV_Drawing_line_base dc_Drawing_line_base pm_Drawing_line_base cd_Drawing_line_base ct_Drawing_line_base : Value}
    {f_Drawing_mark_base : Addr}
    {od_Drawing_mark_base an_Drawing_mark_base : Option Addr}
    {sl_Drawing_mark_base : Array (Option Value)}
    {oc_Drawing_mark_base kV_Drawing_mark_base dc_Drawing_mark_base pm_Drawing_mark_base cd_Drawing_mark_base ct_Drawing_mark_base : Value}
    {f_Drawing_whole_size : Addr}
    {od_Drawing_whole_size an_Drawing_whole_size : Option Addr}
    {sl_Drawing_whole_size : Array (Option Value)}
    {oc_Drawing_whole_size kV_Drawing_whole_size dc_Drawing_whole_size pm_Drawing_whole_size cd_Drawing_whole_size ct_Drawing_whole_size : Value}
    {f_Drawing_point_place : Addr}
    {od_Drawing_point_place an_Drawing_point_place : Option Addr}
    {sl_Drawing_point_place : Array (Option Value)}
    {oc_Drawing_point_place kV_Drawing_point_place dc_Drawing_point_place pm_Drawing_point_place cd_Drawing_point_place ct_Drawing_point_place : Value}
    {f_Drawing_line_place : Addr}
    {od_Drawing_line_place an_Drawing_line_place : Option Addr}
    {sl_Drawing_line_place : Array (Option Value)}
    {oc_Drawing_line_place kV_Drawing_line_place dc_Drawing_line_place pm_Drawing_line_place cd_Drawing_line_place ct_Drawing_line_place : Value}
    {f_Drawing_mark_place : Addr}
    {od_Drawing_mark_place an_Drawing_mark_place : Option Addr}
    {sl_Drawing_mark_place : Array (Option Value)}
    {oc_Drawing_mark_place kV_Drawing_mark_place dc_Drawing_mark_place pm_Drawing_mark_place cd_Drawing_mark_place ct_Drawing_mark_place : Value}
    {f_Drawing_fill : Addr}
    {od_Drawing_fill an_Drawing_fill : Option Addr}
    {sl_Drawing_fill : Array (Option Value)}
    {oc_Drawing_fill kV_Drawing_fill dc_Drawing_fill pm_Drawing_fill cd_Drawing_fill ct_Drawing_fill : Value}
    {f_Drawing_is_on_edge : Addr}
    {od_Drawing_is_on_edge an_Drawing_is_on_edge : Option Addr}
    {sl_Drawing_is_on_edge : Array (Option Value)}
    {oc_Drawing_is_on_edge kV_Drawing_is_on_edge dc_Drawing_is_on_edge pm_Drawing_is_on_edge cd_Drawing_is_on_edge ct_Drawing_is_on_edge : Value}
    {aPair : Addr}
    {f_Pair_init : Addr}
    {od_Pair_init an_Pair_init : Option Addr}
    {sl_Pair_init : Array (Option Value)}
    {oc_Pair_init kV_Pair_init dc_Pair_init pm_Pair_init cd_Pair_init ct_Pair_init : Value}
    {aNoCartoon NNoCartoon : Addr}
    {nmNoCartoon qNoCartoon : Str}
    {bsNoCartoon : List Value}
    {snNoCartoon : List Str}
    {subNoCartoon : List Value}
    {abNoCartoon : Bool}
    {colNoCartoon : Option Bool}
    {ddNoCartoon : Option Addr}
    {m0NoCartoon m1NoCartoon m2NoCartoon m3NoCartoon m5NoCartoon : Option Value}
    {f_NoCartoon_init : Addr}
    {od_NoCartoon_init an_NoCartoon_init : Option Addr}
    {sl_NoCartoon_init : Array (Option Value)}
    {oc_NoCartoon_init kV_NoCartoon_init dc_NoCartoon_init pm_NoCartoon_init cd_NoCartoon_init ct_NoCartoon_init : Value}
    {aTooLong NTooLong : Addr}
    {nmTooLong qTooLong : Str}
    {bsTooLong : List Value}
    {snTooLong : List Str}
    {subTooLong : List Value}
    {abTooLong : Bool}
    {colTooLong : Option Bool}
    {ddTooLong : Option Addr}
    {m0TooLong m1TooLong m2TooLong m3TooLong m5TooLong : Option Value}
    {f_TooLong_init : Addr}
    {od_TooLong_init an_TooLong_init : Option Addr}
    {sl_TooLong_init : Array (Option Value)}
    {oc_TooLong_init kV_TooLong_init dc_TooLong_init pm_TooLong_init cd_TooLong_init ct_TooLong_init : Value}
    (a_turn : PySem.W.nsIn K mainGlobals "turn" = some (some (.ref f_turn)))
    (l_turn : K.lookup f_turn = some ⟨oc_turn, od_turn, .func (PySem.W.fnOf "turn" "turn" (defArgs s_turn) (defBody s_turn) (defScope s_turn) .none kV_turn dc_turn pm_turn an_turn cd_turn ct_turn), sl_turn⟩)
    (c_turn : PySem.W.codeIn K cd_turn "turn" = true)
    (k_turn : PySem.W.keepIn K (.ref f_turn) = true)
    (a_onward : PySem.W.nsIn K mainGlobals "onward" = some (some (.ref f_onward)))
    (l_onward : K.lookup f_onward = some ⟨oc_onward, od_onward, .func (PySem.W.fnOf "onward" "onward" (defArgs s_onward) (defBody s_onward) (defScope s_onward) .none kV_onward dc_onward pm_onward an_onward cd_onward ct_onward), sl_onward⟩)
    (c_onward : PySem.W.codeIn K cd_onward "onward" = true)
    (k_onward : PySem.W.keepIn K (.ref f_onward) = true)
    (a_is_between : PySem.W.nsIn K mainGlobals "is_between" = some (some (.ref f_is_between)))
    (l_is_between : K.lookup f_is_between = some ⟨oc_is_between, od_is_between, .func (PySem.W.fnOf "is_between" "is_between" (defArgs s_is_between) (defBody s_is_between) (defScope s_is_between) .none kV_is_between dc_is_between pm_is_between an_is_between cd_is_between ct_is_between), sl_is_between⟩)
    (c_is_between : PySem.W.codeIn K cd_is_between "is_between" = true)
    (k_is_between : PySem.W.keepIn K (.ref f_is_between) = true)
    (a_is_on : PySem.W.nsIn K mainGlobals "is_on" = some (some (.ref f_is_on)))
    (l_is_on : K.lookup f_is_on = some ⟨oc_is_on, od_is_on, .func (PySem.W.fnOf "is_on" "is_on" (defArgs s_is_on) (defBody s_is_on) (defScope s_is_on) .none kV_is_on dc_is_on pm_is_on an_is_on cd_is_on ct_is_on), sl_is_on⟩)
    (c_is_on : PySem.W.codeIn K cd_is_on "is_on" = true)
    (k_is_on : PySem.W.keepIn K (.ref f_is_on) = true)
    (a_are_apart : PySem.W.nsIn K mainGlobals "are_apart" = some (some (.ref f_are_apart)))
    (l_are_apart : K.lookup f_are_apart = some ⟨oc_are_apart, od_are_apart, .func (PySem.W.fnOf "are_apart" "are_apart" (defArgs s_are_apart) (defBody s_are_apart) (defScope s_are_apart) .none kV_are_apart dc_are_apart pm_are_apart an_are_apart cd_are_apart ct_are_apart), sl_are_apart⟩)
    (c_are_apart : PySem.W.codeIn K cd_are_apart "are_apart" = true)
    (k_are_apart : PySem.W.keepIn K (.ref f_are_apart) = true)
    (a_cross : PySem.W.nsIn K mainGlobals "cross" = some (some (.ref f_cross)))
    (l_cross : K.lookup f_cross = some ⟨oc_cross, od_cross, .func (PySem.W.fnOf "cross" "cross" (defArgs s_cross) (defBody s_cross) (defScope s_cross) .none kV_cross dc_cross pm_cross an_cross cd_cross ct_cross), sl_cross⟩)
    (c_cross : PySem.W.codeIn K cd_cross "cross" = true)
    (k_cross : PySem.W.keepIn K (.ref f_cross) = true)
    (a_comes_behind : PySem.W.nsIn K mainGlobals "comes_behind" = some (some (.ref f_comes_behind)))
    (l_comes_behind : K.lookup f_comes_behind = some ⟨oc_comes_behind, od_comes_behind, .func (PySem.W.fnOf "comes_behind" "comes_behind" (defArgs s_comes_behind) (defBody s_comes_behind) (defScope s_comes_behind) .none kV_comes_behind dc_comes_behind pm_comes_behind an_comes_behind cd_comes_behind ct_comes_behind), sl_comes_behind⟩)
    (c_comes_behind : PySem.W.codeIn K cd_comes_behind "comes_behind" = true)
    (k_comes_behind : PySem.W.keepIn K (.ref f_comes_behind) = true)
    (a_root_of : PySem.W.nsIn K mainGlobals "root_of" = some (some (.ref f_root_of)))
    (l_root_of : K.lookup f_root_of = some ⟨oc_root_of, od_root_of, .func (PySem.W.fnOf "root_of" "root_of" (defArgs s_root_of) (defBody s_root_of) (defScope s_root_of) .none kV_root_of dc_root_of pm_root_of an_root_of cd_root_of ct_root_of), sl_root_of⟩)
    (c_root_of : PySem.W.codeIn K cd_root_of "root_of" = true)
    (k_root_of : PySem.W.keepIn K (.ref f_root_of) = true)
    (a_distance : PySem.W.nsIn K mainGlobals "distance" = some (some (.ref f_distance)))
    (l_distance : K.lookup f_distance = some ⟨oc_distance, od_distance, .func (PySem.W.fnOf "distance" "distance" (defArgs s_distance) (defBody s_distance) (defScope s_distance) .none kV_distance dc_distance pm_distance an_distance cd_distance ct_distance), sl_distance⟩)
    (c_distance : PySem.W.codeIn K cd_distance "distance" = true)
    (k_distance : PySem.W.keepIn K (.ref f_distance) = true)
    (a_number_at : PySem.W.nsIn K mainGlobals "number_at" = some (some (.ref f_number_at)))
    (l_number_at : K.lookup f_number_at = some ⟨oc_number_at, od_number_at, .func (PySem.W.fnOf "number_at" "number_at" (defArgs s_number_at) (defBody s_number_at) (defScope s_number_at) .none kV_number_at dc_number_at pm_number_at an_number_at cd_number_at ct_number_at), sl_number_at⟩)
    (c_number_at : PySem.W.codeIn K cd_number_at "number_at" = true)
    (k_number_at : PySem.W.keepIn K (.ref f_number_at) = true)
    (a_ask : PySem.W.nsIn K mainGlobals "ask" = some (some (.ref f_ask)))
    (l_ask : K.lookup f_ask = some ⟨oc_ask, od_ask, .func (PySem.W.fnOf "ask" "ask" (defArgs s_ask) (defBody s_ask) (defScope s_ask) .none kV_ask dc_ask pm_ask an_ask cd_ask ct_ask), sl_ask⟩)
    (c_ask : PySem.W.codeIn K cd_ask "ask" = true)
    (k_ask : PySem.W.keepIn K (.ref f_ask) = true)
    (a_check_head : PySem.W.nsIn K mainGlobals "check_head" = some (some (.ref f_check_head)))
    (l_check_head : K.lookup f_check_head = some ⟨oc_check_head, od_check_head, .func (PySem.W.fnOf "check_head" "check_head" (defArgs s_check_head) (defBody s_check_head) (defScope s_check_head) .none kV_check_head dc_check_head pm_check_head an_check_head cd_check_head ct_check_head), sl_check_head⟩)
    (c_check_head : PySem.W.codeIn K cd_check_head "check_head" = true)
    (k_check_head : PySem.W.keepIn K (.ref f_check_head) = true)
    (a_drawing_of : PySem.W.nsIn K mainGlobals "drawing_of" = some (some (.ref f_drawing_of)))
    (l_drawing_of : K.lookup f_drawing_of = some ⟨oc_drawing_of, od_drawing_of, .func (PySem.W.fnOf "drawing_of" "drawing_of" (defArgs s_drawing_of) (defBody s_drawing_of) (defScope s_drawing_of) .none kV_drawing_of dc_drawing_of pm_drawing_of an_drawing_of cd_drawing_of ct_drawing_of), sl_drawing_of⟩)
    (c_drawing_of : PySem.W.codeIn K cd_drawing_of "drawing_of" = true)
    (k_drawing_of : PySem.W.keepIn K (.ref f_drawing_of) = true)
    (a_check_points : PySem.W.nsIn K mainGlobals "check_points" = some (some (.ref f_check_points)))
    (l_check_points : K.lookup f_check_points = some ⟨oc_check_points, od_check_points, .func (PySem.W.fnOf "check_points" "check_points" (defArgs s_check_points) (defBody s_check_points) (defScope s_check_points) .none kV_check_points dc_check_points pm_check_points an_check_points cd_check_points ct_check_points), sl_check_points⟩)
    (c_check_points : PySem.W.codeIn K cd_check_points "check_points" = true)
    (k_check_points : PySem.W.keepIn K (.ref f_check_points) = true)
    (a_check_lines : PySem.W.nsIn K mainGlobals "check_lines" = some (some (.ref f_check_lines)))
    (l_check_lines : K.lookup f_check_lines = some ⟨oc_check_lines, od_check_lines, .func (PySem.W.fnOf "check_lines" "check_lines" (defArgs s_check_lines) (defBody s_check_lines) (defScope s_check_lines) .none kV_check_lines dc_check_lines pm_check_lines an_check_lines cd_check_lines ct_check_lines), sl_check_lines⟩)
    (c_check_lines : PySem.W.codeIn K cd_check_lines "check_lines" = true)
    (k_check_lines : PySem.W.keepIn K (.ref f_check_lines) = true)
    (a_edges_of : PySem.W.nsIn K mainGlobals "edges_of" = some (some (.ref f_edges_of)))
    (l_edges_of : K.lookup f_edges_of = some ⟨oc_edges_of, od_edges_of, .func (PySem.W.fnOf "edges_of" "edges_of" (defArgs s_edges_of) (defBody s_edges_of) (defScope s_edges_of) .none kV_edges_of dc_edges_of pm_edges_of an_edges_of cd_edges_of ct_edges_of), sl_edges_of⟩)
    (c_edges_of : PySem.W.codeIn K cd_edges_of "edges_of" = true)
    (k_edges_of : PySem.W.keepIn K (.ref f_edges_of) = true)
    (a_check_frame : PySem.W.nsIn K mainGlobals "check_frame" = some (some (.ref f_check_frame)))
    (l_check_frame : K.lookup f_check_frame = some ⟨oc_check_frame, od_check_frame, .func (PySem.W.fnOf "check_frame" "check_frame" (defArgs s_check_frame) (defBody s_check_frame) (defScope s_check_frame) .none kV_check_frame dc_check_frame pm_check_frame an_check_frame cd_check_frame ct_check_frame), sl_check_frame⟩)
    (c_check_frame : PySem.W.codeIn K cd_check_frame "check_frame" = true)
    (k_check_frame : PySem.W.keepIn K (.ref f_check_frame) = true)
    (a_is_free : PySem.W.nsIn K mainGlobals "is_free" = some (some (.ref f_is_free)))
    (l_is_free : K.lookup f_is_free = some ⟨oc_is_free, od_is_free, .func (PySem.W.fnOf "is_free" "is_free" (defArgs s_is_free) (defBody s_is_free) (defScope s_is_free) .none kV_is_free dc_is_free pm_is_free an_is_free cd_is_free ct_is_free), sl_is_free⟩)
    (c_is_free : PySem.W.codeIn K cd_is_free "is_free" = true)
    (k_is_free : PySem.W.keepIn K (.ref f_is_free) = true)
    (a_check_crossings : PySem.W.nsIn K mainGlobals "check_crossings" = some (some (.ref f_check_crossings)))
    (l_check_crossings : K.lookup f_check_crossings = some ⟨oc_check_crossings, od_check_crossings, .func (PySem.W.fnOf "check_crossings" "check_crossings" (defArgs s_check_crossings) (defBody s_check_crossings) (defScope s_check_crossings) .none kV_check_crossings dc_check_crossings pm_check_crossings an_check_crossings cd_check_crossings ct_check_crossings), sl_check_crossings⟩)
    (c_check_crossings : PySem.W.codeIn K cd_check_crossings "check_crossings" = true)
    (k_check_crossings : PySem.W.keepIn K (.ref f_check_crossings) = true)
    (a_neighbours_of : PySem.W.nsIn K mainGlobals "neighbours_of" = some (some (.ref f_neighbours_of)))
    (l_neighbours_of : K.lookup f_neighbours_of = some ⟨oc_neighbours_of, od_neighbours_of, .func (PySem.W.fnOf "neighbours_of" "neighbours_of" (defArgs s_neighbours_of) (defBody s_neighbours_of) (defScope s_neighbours_of) .none kV_neighbours_of dc_neighbours_of pm_neighbours_of an_neighbours_of cd_neighbours_of ct_neighbours_of), sl_neighbours_of⟩)
    (c_neighbours_of : PySem.W.codeIn K cd_neighbours_of "neighbours_of" = true)
    (k_neighbours_of : PySem.W.keepIn K (.ref f_neighbours_of) = true)
    (a_reached : PySem.W.nsIn K mainGlobals "reached" = some (some (.ref f_reached)))
    (l_reached : K.lookup f_reached = some ⟨oc_reached, od_reached, .func (PySem.W.fnOf "reached" "reached" (defArgs s_reached) (defBody s_reached) (defScope s_reached) .none kV_reached dc_reached pm_reached an_reached cd_reached ct_reached), sl_reached⟩)
    (c_reached : PySem.W.codeIn K cd_reached "reached" = true)
    (k_reached : PySem.W.keepIn K (.ref f_reached) = true)
    (a_check_ways : PySem.W.nsIn K mainGlobals "check_ways" = some (some (.ref f_check_ways)))
    (l_check_ways : K.lookup f_check_ways = some ⟨oc_check_ways, od_check_ways, .func (PySem.W.fnOf "check_ways" "check_ways" (defArgs s_check_ways) (defBody s_check_ways) (defScope s_check_ways) .none kV_check_ways dc_check_ways pm_check_ways an_check_ways cd_check_ways ct_check_ways), sl_check_ways⟩)
    (c_check_ways : PySem.W.codeIn K cd_check_ways "check_ways" = true)
    (k_check_ways : PySem.W.keepIn K (.ref f_check_ways) = true)
    (a_check_drawing : PySem.W.nsIn K mainGlobals "check_drawing" = some (some (.ref f_check_drawing)))
    (l_check_drawing : K.lookup f_check_drawing = some ⟨oc_check_drawing, od_check_drawing, .func (PySem.W.fnOf "check_drawing" "check_drawing" (defArgs s_check_drawing) (defBody s_check_drawing) (defScope s_check_drawing) .none kV_check_drawing dc_check_drawing pm_check_drawing an_check_drawing cd_check_drawing ct_check_drawing), sl_check_drawing⟩)
    (c_check_drawing : PySem.W.codeIn K cd_check_drawing "check_drawing" = true)
    (k_check_drawing : PySem.W.keepIn K (.ref f_check_drawing) = true)
    (a_away : PySem.W.nsIn K mainGlobals "away" = some (some (.ref f_away)))
    (l_away : K.lookup f_away = some ⟨oc_away, od_away, .func (PySem.W.fnOf "away" "away" (defArgs s_away) (defBody s_away) (defScope s_away) .none kV_away dc_away pm_away an_away cd_away ct_away), sl_away⟩)
    (c_away : PySem.W.codeIn K cd_away "away" = true)
    (k_away : PySem.W.keepIn K (.ref f_away) = true)
    (a_area : PySem.W.nsIn K mainGlobals "area" = some (some (.ref f_area)))
    (l_area : K.lookup f_area = some ⟨oc_area, od_area, .func (PySem.W.fnOf "area" "area" (defArgs s_area) (defBody s_area) (defScope s_area) .none kV_area dc_area pm_area an_area cd_area ct_area), sl_area⟩)
    (c_area : PySem.W.codeIn K cd_area "area" = true)
    (k_area : PySem.W.keepIn K (.ref f_area) = true)
    (a_half : PySem.W.nsIn K mainGlobals "half" = some (some (.ref f_half)))
    (l_half : K.lookup f_half = some ⟨oc_half, od_half, .func (PySem.W.fnOf "half" "half" (defArgs s_half) (defBody s_half) (defScope s_half) .none kV_half dc_half pm_half an_half cd_half ct_half), sl_half⟩)
    (c_half : PySem.W.codeIn K cd_half "half" = true)
    (k_half : PySem.W.keepIn K (.ref f_half) = true)
    (a_is_sooner : PySem.W.nsIn K mainGlobals "is_sooner" = some (some (.ref f_is_sooner)))
    (l_is_sooner : K.lookup f_is_sooner = some ⟨oc_is_sooner, od_is_sooner, .func (PySem.W.fnOf "is_sooner" "is_sooner" (defArgs s_is_sooner) (defBody s_is_sooner) (defScope s_is_sooner) .none kV_is_sooner dc_is_sooner pm_is_sooner an_is_sooner cd_is_sooner ct_is_sooner), sl_is_sooner⟩)
    (c_is_sooner : PySem.W.codeIn K cd_is_sooner "is_sooner" = true)
    (k_is_sooner : PySem.W.keepIn K (.ref f_is_sooner) = true)
    (a_next_point : PySem.W.nsIn K mainGlobals "next_point" = some (some (.ref f_next_point)))
    (l_next_point : K.lookup f_next_point = some ⟨oc_next_point, od_next_point, .func (PySem.W.fnOf "next_point" "next_point" (defArgs s_next_point) (defBody s_next_point) (defScope s_next_point) .none kV_next_point dc_next_point pm_next_point an_next_point cd_next_point ct_next_point), sl_next_point⟩)
    (c_next_point : PySem.W.codeIn K cd_next_point "next_point" = true)
    (k_next_point : PySem.W.keepIn K (.ref f_next_point) = true)
    (a_outline_from : PySem.W.nsIn K mainGlobals "outline_from" = some (some (.ref f_outline_from)))
    (l_outline_from : K.lookup f_outline_from = some ⟨oc_outline_from, od_outline_from, .func (PySem.W.fnOf "outline_from" "outline_from" (defArgs s_outline_from) (defBody s_outline_from) (defScope s_outline_from) .none kV_outline_from dc_outline_from pm_outline_from an_outline_from cd_outline_from ct_outline_from), sl_outline_from⟩)
    (c_outline_from : PySem.W.codeIn K cd_outline_from "outline_from" = true)
    (k_outline_from : PySem.W.keepIn K (.ref f_outline_from) = true)
    (a_sides_of : PySem.W.nsIn K mainGlobals "sides_of" = some (some (.ref f_sides_of)))
    (l_sides_of : K.lookup f_sides_of = some ⟨oc_sides_of, od_sides_of, .func (PySem.W.fnOf "sides_of" "sides_of" (defArgs s_sides_of) (defBody s_sides_of) (defScope s_sides_of) .none kV_sides_of dc_sides_of pm_sides_of an_sides_of cd_sides_of ct_sides_of), sl_sides_of⟩)
    (c_sides_of : PySem.W.codeIn K cd_sides_of "sides_of" = true)
    (k_sides_of : PySem.W.keepIn K (.ref f_sides_of) = true)
    (a_is_to_left : PySem.W.nsIn K mainGlobals "is_to_left" = some (some (.ref f_is_to_left)))
    (l_is_to_left : K.lookup f_is_to_left = some ⟨oc_is_to_left, od_is_to_left, .func (PySem.W.fnOf "is_to_left" "is_to_left" (defArgs s_is_to_left) (defBody s_is_to_left) (defScope s_is_to_left) .none kV_is_to_left dc_is_to_left pm_is_to_left an_is_to_left cd_is_to_left ct_is_to_left), sl_is_to_left⟩)
    (c_is_to_left : PySem.W.codeIn K cd_is_to_left "is_to_left" = true)
    (k_is_to_left : PySem.W.keepIn K (.ref f_is_to_left) = true)
    (a_outlines_of : PySem.W.nsIn K mainGlobals "outlines_of" = some (some (.ref f_outlines_of)))
    (l_outlines_of : K.lookup f_outlines_of = some ⟨oc_outlines_of, od_outlines_of, .func (PySem.W.fnOf "outlines_of" "outlines_of" (defArgs s_outlines_of) (defBody s_outlines_of) (defScope s_outlines_of) .none kV_outlines_of dc_outlines_of pm_outlines_of an_outlines_of cd_outlines_of ct_outlines_of), sl_outlines_of⟩)
    (c_outlines_of : PySem.W.codeIn K cd_outlines_of "outlines_of" = true)
    (k_outlines_of : PySem.W.keepIn K (.ref f_outlines_of) = true)
    (a_is_passed : PySem.W.nsIn K mainGlobals "is_passed" = some (some (.ref f_is_passed)))
    (l_is_passed : K.lookup f_is_passed = some ⟨oc_is_passed, od_is_passed, .func (PySem.W.fnOf "is_passed" "is_passed" (defArgs s_is_passed) (defBody s_is_passed) (defScope s_is_passed) .none kV_is_passed dc_is_passed pm_is_passed an_is_passed cd_is_passed ct_is_passed), sl_is_passed⟩)
    (c_is_passed : PySem.W.codeIn K cd_is_passed "is_passed" = true)
    (k_is_passed : PySem.W.keepIn K (.ref f_is_passed) = true)
    (a_is_in : PySem.W.nsIn K mainGlobals "is_in" = some (some (.ref f_is_in)))
    (l_is_in : K.lookup f_is_in = some ⟨oc_is_in, od_is_in, .func (PySem.W.fnOf "is_in" "is_in" (defArgs s_is_in) (defBody s_is_in) (defScope s_is_in) .none kV_is_in dc_is_in pm_is_in an_is_in cd_is_in ct_is_in), sl_is_in⟩)
    (c_is_in : PySem.W.codeIn K cd_is_in "is_in" = true)
    (k_is_in : PySem.W.keepIn K (.ref f_is_in) = true)
    (a_pane_of : PySem.W.nsIn K mainGlobals "pane_of" = some (some (.ref f_pane_of)))
    (l_pane_of : K.lookup f_pane_of = some ⟨oc_pane_of, od_pane_of, .func (PySem.W.fnOf "pane_of" "pane_of" (defArgs s_pane_of) (defBody s_pane_of) (defScope s_pane_of) .none kV_pane_of dc_pane_of pm_pane_of an_pane_of cd_pane_of ct_pane_of), sl_pane_of⟩)
    (c_pane_of : PySem.W.codeIn K cd_pane_of "pane_of" = true)
    (k_pane_of : PySem.W.keepIn K (.ref f_pane_of) = true)
    (a_is_on_line : PySem.W.nsIn K mainGlobals "is_on_line" = some (some (.ref f_is_on_line)))
    (l_is_on_line : K.lookup f_is_on_line = some ⟨oc_is_on_line, od_is_on_line, .func (PySem.W.fnOf "is_on_line" "is_on_line" (defArgs s_is_on_line) (defBody s_is_on_line) (defScope s_is_on_line) .none kV_is_on_line dc_is_on_line pm_is_on_line an_is_on_line cd_is_on_line ct_is_on_line), sl_is_on_line⟩)
    (c_is_on_line : PySem.W.codeIn K cd_is_on_line "is_on_line" = true)
    (k_is_on_line : PySem.W.keepIn K (.ref f_is_on_line) = true)
    (a_check_marks : PySem.W.nsIn K mainGlobals "check_marks" = some (some (.ref f_check_marks)))
    (l_check_marks : K.lookup f_check_marks = some ⟨oc_check_marks, od_check_marks, .func (PySem.W.fnOf "check_marks" "check_marks" (defArgs s_check_marks) (defBody s_check_marks) (defScope s_check_marks) .none kV_check_marks dc_check_marks pm_check_marks an_check_marks cd_check_marks ct_check_marks), sl_check_marks⟩)
    (c_check_marks : PySem.W.codeIn K cd_check_marks "check_marks" = true)
    (k_check_marks : PySem.W.keepIn K (.ref f_check_marks) = true)
    (a_check_panes : PySem.W.nsIn K mainGlobals "check_panes" = some (some (.ref f_check_panes)))
    (l_check_panes : K.lookup f_check_panes = some ⟨oc_check_panes, od_check_panes, .func (PySem.W.fnOf "check_panes" "check_panes" (defArgs s_check_panes) (defBody s_check_panes) (defScope s_check_panes) .none kV_check_panes dc_check_panes pm_check_panes an_check_panes cd_check_panes ct_check_panes), sl_check_panes⟩)
    (c_check_panes : PySem.W.codeIn K cd_check_panes "check_panes" = true)
    (k_check_panes : PySem.W.keepIn K (.ref f_check_panes) = true)
    (a_cartoon_of : PySem.W.nsIn K mainGlobals "cartoon_of" = some (some (.ref f_cartoon_of)))
    (l_cartoon_of : K.lookup f_cartoon_of = some ⟨oc_cartoon_of, od_cartoon_of, .func (PySem.W.fnOf "cartoon_of" "cartoon_of" (defArgs s_cartoon_of) (defBody s_cartoon_of) (defScope s_cartoon_of) .none kV_cartoon_of dc_cartoon_of pm_cartoon_of an_cartoon_of cd_cartoon_of ct_cartoon_of), sl_cartoon_of⟩)
    (c_cartoon_of : PySem.W.codeIn K cd_cartoon_of "cartoon_of" = true)
    (k_cartoon_of : PySem.W.keepIn K (.ref f_cartoon_of) = true)
    (a_is_edge_line : PySem.W.nsIn K mainGlobals "is_edge_line" = some (some (.ref f_is_edge_line)))
    (l_is_edge_line : K.lookup f_is_edge_line = some ⟨oc_is_edge_line, od_is_edge_line, .func (PySem.W.fnOf "is_edge_line" "is_edge_line" (defArgs s_is_edge_line) (defBody s_is_edge_line) (defScope s_is_edge_line) .none kV_is_edge_line dc_is_edge_line pm_is_edge_line an_is_edge_line cd_is_edge_line ct_is_edge_line), sl_is_edge_line⟩)
    (c_is_edge_line : PySem.W.codeIn K cd_is_edge_line "is_edge_line" = true)
    (k_is_edge_line : PySem.W.keepIn K (.ref f_is_edge_line) = true)
    (a_leads_of : PySem.W.nsIn K mainGlobals "leads_of" = some (some (.ref f_leads_of)))
    (l_leads_of : K.lookup f_leads_of = some ⟨oc_leads_of, od_leads_of, .func (PySem.W.fnOf "leads_of" "leads_of" (defArgs s_leads_of) (defBody s_leads_of) (defScope s_leads_of) .none kV_leads_of dc_leads_of pm_leads_of an_leads_of cd_leads_of ct_leads_of), sl_leads_of⟩)
    (c_leads_of : PySem.W.codeIn K cd_leads_of "leads_of" = true)
    (k_leads_of : PySem.W.keepIn K (.ref f_leads_of) = true)
    (a_length_of : PySem.W.nsIn K mainGlobals "length_of" = some (some (.ref f_length_of)))
    (l_length_of : K.lookup f_length_of = some ⟨oc_length_of, od_length_of, .func (PySem.W.fnOf "length_of" "length_of" (defArgs s_length_of) (defBody s_length_of) (defScope s_length_of) .none kV_length_of dc_length_of pm_length_of an_length_of cd_length_of ct_length_of), sl_length_of⟩)
    (c_length_of : PySem.W.codeIn K cd_length_of "length_of" = true)
    (k_length_of : PySem.W.keepIn K (.ref f_length_of) = true)
    (a_other_end : PySem.W.nsIn K mainGlobals "other_end" = some (some (.ref f_other_end)))
    (l_other_end : K.lookup f_other_end = some ⟨oc_other_end, od_other_end, .func (PySem.W.fnOf "other_end" "other_end" (defArgs s_other_end) (defBody s_other_end) (defScope s_other_end) .none kV_other_end dc_other_end pm_other_end an_other_end cd_other_end ct_other_end), sl_other_end⟩)
    (c_other_end : PySem.W.codeIn K cd_other_end "other_end" = true)
    (k_other_end : PySem.W.keepIn K (.ref f_other_end) = true)
    (a_ending_at : PySem.W.nsIn K mainGlobals "ending_at" = some (some (.ref f_ending_at)))
    (l_ending_at : K.lookup f_ending_at = some ⟨oc_ending_at, od_ending_at, .func (PySem.W.fnOf "ending_at" "ending_at" (defArgs s_ending_at) (defBody s_ending_at) (defScope s_ending_at) .none kV_ending_at dc_ending_at pm_ending_at an_ending_at cd_ending_at ct_ending_at), sl_ending_at⟩)
    (c_ending_at : PySem.W.codeIn K cd_ending_at "ending_at" = true)
    (k_ending_at : PySem.W.keepIn K (.ref f_ending_at) = true)
    (a_pair_at : PySem.W.nsIn K mainGlobals "pair_at" = some (some (.ref f_pair_at)))
    (l_pair_at : K.lookup f_pair_at = some ⟨oc_pair_at, od_pair_at, .func (PySem.W.fnOf "pair_at" "pair_at" (defArgs s_pair_at) (defBody s_pair_at) (defScope s_pair_at) .none kV_pair_at dc_pair_at pm_pair_at an_pair_at cd_pair_at ct_pair_at), sl_pair_at⟩)
    (c_pair_at : PySem.W.codeIn K cd_pair_at "pair_at" = true)
    (k_pair_at : PySem.W.keepIn K (.ref f_pair_at) = true)
    (a_goes_through : PySem.W.nsIn K mainGlobals "goes_through" = some (some (.ref f_goes_through)))
    (l_goes_through : K.lookup f_goes_through = some ⟨oc_goes_through, od_goes_through, .func (PySem.W.fnOf "goes_through" "goes_through" (defArgs s_goes_through) (defBody s_goes_through) (defScope s_goes_through) .none kV_goes_through dc_goes_through pm_goes_through an_goes_through cd_goes_through ct_goes_through), sl_goes_through⟩)
    (c_goes_through : PySem.W.codeIn K cd_goes_through "goes_through" = true)
    (k_goes_through : PySem.W.keepIn K (.ref f_goes_through) = true)
    (a_is_ahead : PySem.W.nsIn K mainGlobals "is_ahead" = some (some (.ref f_is_ahead)))
    (l_is_ahead : K.lookup f_is_ahead = some ⟨oc_is_ahead, od_is_ahead, .func (PySem.W.fnOf "is_ahead" "is_ahead" (defArgs s_is_ahead) (defBody s_is_ahead) (defScope s_is_ahead) .none kV_is_ahead dc_is_ahead pm_is_ahead an_is_ahead cd_is_ahead ct_is_ahead), sl_is_ahead⟩)
    (c_is_ahead : PySem.W.codeIn K cd_is_ahead "is_ahead" = true)
    (k_is_ahead : PySem.W.keepIn K (.ref f_is_ahead) = true)
    (a_first_pair : PySem.W.nsIn K mainGlobals "first_pair" = some (some (.ref f_first_pair)))
    (l_first_pair : K.lookup f_first_pair = some ⟨oc_first_pair, od_first_pair, .func (PySem.W.fnOf "first_pair" "first_pair" (defArgs s_first_pair) (defBody s_first_pair) (defScope s_first_pair) .none kV_first_pair dc_first_pair pm_first_pair an_first_pair cd_first_pair ct_first_pair), sl_first_pair⟩)
    (c_first_pair : PySem.W.codeIn K cd_first_pair "first_pair" = true)
    (k_first_pair : PySem.W.keepIn K (.ref f_first_pair) = true)
    (a_pairs_at : PySem.W.nsIn K mainGlobals "pairs_at" = some (some (.ref f_pairs_at)))
    (l_pairs_at : K.lookup f_pairs_at = some ⟨oc_pairs_at, od_pairs_at, .func (PySem.W.fnOf "pairs_at" "pairs_at" (defArgs s_pairs_at) (defBody s_pairs_at) (defScope s_pairs_at) .none kV_pairs_at dc_pairs_at pm_pairs_at an_pairs_at cd_pairs_at ct_pairs_at), sl_pairs_at⟩)
    (c_pairs_at : PySem.W.codeIn K cd_pairs_at "pairs_at" = true)
    (k_pairs_at : PySem.W.keepIn K (.ref f_pairs_at) = true)
    (a_meets : PySem.W.nsIn K mainGlobals "meets" = some (some (.ref f_meets)))
    (l_meets : K.lookup f_meets = some ⟨oc_meets, od_meets, .func (PySem.W.fnOf "meets" "meets" (defArgs s_meets) (defBody s_meets) (defScope s_meets) .none kV_meets dc_meets pm_meets an_meets cd_meets ct_meets), sl_meets⟩)
    (c_meets : PySem.W.codeIn K cd_meets "meets" = true)
    (k_meets : PySem.W.keepIn K (.ref f_meets) = true)
    (a_join_at : PySem.W.nsIn K mainGlobals "join_at" = some (some (.ref f_join_at)))
    (l_join_at : K.lookup f_join_at = some ⟨oc_join_at, od_join_at, .func (PySem.W.fnOf "join_at" "join_at" (defArgs s_join_at) (defBody s_join_at) (defScope s_join_at) .none kV_join_at dc_join_at pm_join_at an_join_at cd_join_at ct_join_at), sl_join_at⟩)
    (c_join_at : PySem.W.codeIn K cd_join_at "join_at" = true)
    (k_join_at : PySem.W.keepIn K (.ref f_join_at) = true)
    (a_joins_of : PySem.W.nsIn K mainGlobals "joins_of" = some (some (.ref f_joins_of)))
    (l_joins_of : K.lookup f_joins_of = some ⟨oc_joins_of, od_joins_of, .func (PySem.W.fnOf "joins_of" "joins_of" (defArgs s_joins_of) (defBody s_joins_of) (defScope s_joins_of) .none kV_joins_of dc_joins_of pm_joins_of an_joins_of cd_joins_of ct_joins_of), sl_joins_of⟩)
    (c_joins_of : PySem.W.codeIn K cd_joins_of "joins_of" = true)
    (k_joins_of : PySem.W.keepIn K (.ref f_joins_of) = true)
    (a_trail : PySem.W.nsIn K mainGlobals "trail" = some (some (.ref f_trail)))
    (l_trail : K.lookup f_trail = some ⟨oc_trail, od_trail, .func (PySem.W.fnOf "trail" "trail" (defArgs s_trail) (defBody s_trail) (defScope s_trail) .none kV_trail dc_trail pm_trail an_trail cd_trail ct_trail), sl_trail⟩)
    (c_trail : PySem.W.codeIn K cd_trail "trail" = true)
    (k_trail : PySem.W.keepIn K (.ref f_trail) = true)
    (a_first_of_ring : PySem.W.nsIn K mainGlobals "first_of_ring" = some (some (.ref f_first_of_ring)))
    (l_first_of_ring : K.lookup f_first_of_ring = some ⟨oc_first_of_ring, od_first_of_ring, .func (PySem.W.fnOf "first_of_ring" "first_of_ring" (defArgs s_first_of_ring) (defBody s_first_of_ring) (defScope s_first_of_ring) .none kV_first_of_ring dc_first_of_ring pm_first_of_ring an_first_of_ring cd_first_of_ring ct_first_of_ring), sl_first_of_ring⟩)
    (c_first_of_ring : PySem.W.codeIn K cd_first_of_ring "first_of_ring" = true)
    (k_first_of_ring : PySem.W.keepIn K (.ref f_first_of_ring) = true)
    (a_strip_of : PySem.W.nsIn K mainGlobals "strip_of" = some (some (.ref f_strip_of)))
    (l_strip_of : K.lookup f_strip_of = some ⟨oc_strip_of, od_strip_of, .func (PySem.W.fnOf "strip_of" "strip_of" (defArgs s_strip_of) (defBody s_strip_of) (defScope s_strip_of) .none kV_strip_of dc_strip_of pm_strip_of an_strip_of cd_strip_of ct_strip_of), sl_strip_of⟩)
    (c_strip_of : PySem.W.codeIn K cd_strip_of "strip_of" = true)
    (k_strip_of : PySem.W.keepIn K (.ref f_strip_of) = true)
    (a_strips_of : PySem.W.nsIn K mainGlobals "strips_of" = some (some (.ref f_strips_of)))
    (l_strips_of : K.lookup f_strips_of = some ⟨oc_strips_of, od_strips_of, .func (PySem.W.fnOf "strips_of" "strips_of" (defArgs s_strips_of) (defBody s_strips_of) (defScope s_strips_of) .none kV_strips_of dc_strips_of pm_strips_of an_strips_of cd_strips_of ct_strips_of), sl_strips_of⟩)
    (c_strips_of : PySem.W.codeIn K cd_strips_of "strips_of" = true)
    (k_strips_of : PySem.W.keepIn K (.ref f_strips_of) = true)
    (a_check_lengths : PySem.W.nsIn K mainGlobals "check_lengths" = some (some (.ref f_check_lengths)))
    (l_check_lengths : K.lookup f_check_lengths = some ⟨oc_check_lengths, od_check_lengths, .func (PySem.W.fnOf "check_lengths" "check_lengths" (defArgs s_check_lengths) (defBody s_check_lengths) (defScope s_check_lengths) .none kV_check_lengths dc_check_lengths pm_check_lengths an_check_lengths cd_check_lengths ct_check_lengths), sl_check_lengths⟩)
    (c_check_lengths : PySem.W.codeIn K cd_check_lengths "check_lengths" = true)
    (k_check_lengths : PySem.W.keepIn K (.ref f_check_lengths) = true)
    (a_pieces_of_strip : PySem.W.nsIn K mainGlobals "pieces_of_strip" = some (some (.ref f_pieces_of_strip)))
    (l_pieces_of_strip : K.lookup f_pieces_of_strip = some ⟨oc_pieces_of_strip, od_pieces_of_strip, .func (PySem.W.fnOf "pieces_of_strip" "pieces_of_strip" (defArgs s_pieces_of_strip) (defBody s_pieces_of_strip) (defScope s_pieces_of_strip) .none kV_pieces_of_strip dc_pieces_of_strip pm_pieces_of_strip an_pieces_of_strip cd_pieces_of_strip ct_pieces_of_strip), sl_pieces_of_strip⟩)
    (c_pieces_of_strip : PySem.W.codeIn K cd_pieces_of_strip "pieces_of_strip" = true)
    (k_pieces_of_strip : PySem.W.keepIn K (.ref f_pieces_of_strip) = true)
    (a_pieces_of : PySem.W.nsIn K mainGlobals "pieces_of" = some (some (.ref f_pieces_of)))
    (l_pieces_of : K.lookup f_pieces_of = some ⟨oc_pieces_of, od_pieces_of, .func (PySem.W.fnOf "pieces_of" "pieces_of" (defArgs s_pieces_of) (defBody s_pieces_of) (defScope s_pieces_of) .none kV_pieces_of dc_pieces_of pm_pieces_of an_pieces_of cd_pieces_of ct_pieces_of), sl_pieces_of⟩)
    (c_pieces_of : PySem.W.codeIn K cd_pieces_of "pieces_of" = true)
    (k_pieces_of : PySem.W.keepIn K (.ref f_pieces_of) = true)
    (a_lengths_of : PySem.W.nsIn K mainGlobals "lengths_of" = some (some (.ref f_lengths_of)))
    (l_lengths_of : K.lookup f_lengths_of = some ⟨oc_lengths_of, od_lengths_of, .func (PySem.W.fnOf "lengths_of" "lengths_of" (defArgs s_lengths_of) (defBody s_lengths_of) (defScope s_lengths_of) .none kV_lengths_of dc_lengths_of pm_lengths_of an_lengths_of cd_lengths_of ct_lengths_of), sl_lengths_of⟩)
    (c_lengths_of : PySem.W.codeIn K cd_lengths_of "lengths_of" = true)
    (k_lengths_of : PySem.W.keepIn K (.ref f_lengths_of) = true)
    (a_overfull : PySem.W.nsIn K mainGlobals "overfull" = some (some (.ref f_overfull)))
    (l_overfull : K.lookup f_overfull = some ⟨oc_overfull, od_overfull, .func (PySem.W.fnOf "overfull" "overfull" (defArgs s_overfull) (defBody s_overfull) (defScope s_overfull) .none kV_overfull dc_overfull pm_overfull an_overfull cd_overfull ct_overfull), sl_overfull⟩)
    (c_overfull : PySem.W.codeIn K cd_overfull "overfull" = true)
    (k_overfull : PySem.W.keepIn K (.ref f_overfull) = true)
    (a_is_shop : PySem.W.nsIn K mainGlobals "is_shop" = some (some (.ref f_is_shop)))
    (l_is_shop : K.lookup f_is_shop = some ⟨oc_is_shop, od_is_shop, .func (PySem.W.fnOf "is_shop" "is_shop" (defArgs s_is_shop) (defBody s_is_shop) (defScope s_is_shop) .none kV_is_shop dc_is_shop pm_is_shop an_is_shop cd_is_shop ct_is_shop), sl_is_shop⟩)
    (c_is_shop : PySem.W.codeIn K cd_is_shop "is_shop" = true)
    (k_is_shop : PySem.W.keepIn K (.ref f_is_shop) = true)
    (a_opened : PySem.W.nsIn K mainGlobals "opened" = some (some (.ref f_opened)))
    (l_opened : K.lookup f_opened = some ⟨oc_opened, od_opened, .func (PySem.W.fnOf "opened" "opened" (defArgs s_opened) (defBody s_opened) (defScope s_opened) .none kV_opened dc_opened pm_opened an_opened cd_opened ct_opened), sl_opened⟩)
    (c_opened : PySem.W.codeIn K cd_opened "opened" = true)
    (k_opened : PySem.W.keepIn K (.ref f_opened) = true)
    (a_cut : PySem.W.nsIn K mainGlobals "cut" = some (some (.ref f_cut)))
    (l_cut : K.lookup f_cut = some ⟨oc_cut, od_cut, .func (PySem.W.fnOf "cut" "cut" (defArgs s_cut) (defBody s_cut) (defScope s_cut) .none kV_cut dc_cut pm_cut an_cut cd_cut ct_cut), sl_cut⟩)
    (c_cut : PySem.W.codeIn K cd_cut "cut" = true)
    (k_cut : PySem.W.keepIn K (.ref f_cut) = true)
    (a_judge : PySem.W.nsIn K mainGlobals "judge" = some (some (.ref f_judge)))
    (l_judge : K.lookup f_judge = some ⟨oc_judge, od_judge, .func (PySem.W.fnOf "judge" "judge" (defArgs s_judge) (defBody s_judge) (defScope s_judge) .none kV_judge dc_judge pm_judge an_judge cd_judge ct_judge), sl_judge⟩)
    (c_judge : PySem.W.codeIn K cd_judge "judge" = true)
    (k_judge : PySem.W.keepIn K (.ref f_judge) = true)
    (a_HEAD : PySem.W.nsIn K mainGlobals "HEAD" = some (some (.int (20) t_HEAD)))
    (a_LEAST_SIDE : PySem.W.nsIn K mainGlobals "LEAST_SIDE" = some (some (.int (16) t_LEAST_SIDE)))
    (a_GREATEST_SIDE : PySem.W.nsIn K mainGlobals "GREATEST_SIDE" = some (some (.int (1048575) t_GREATEST_SIDE)))
    (a_POINT_BYTES : PySem.W.nsIn K mainGlobals "POINT_BYTES" = some (some (.int (8) t_POINT_BYTES)))
    (a_LINE_BYTES : PySem.W.nsIn K mainGlobals "LINE_BYTES" = some (some (.int (4) t_LINE_BYTES)))
    (a_MARK_BYTES : PySem.W.nsIn K mainGlobals "MARK_BYTES" = some (some (.int (12) t_MARK_BYTES)))
    (a_LONE : PySem.W.nsIn K mainGlobals "LONE" = some (some (.int (-1) t_LONE)))
    (a_DONE : PySem.W.nsIn K mainGlobals "DONE" = some (some (.int (0) t_DONE)))
    (a_NO_SHOP : PySem.W.nsIn K mainGlobals "NO_SHOP" = some (some (.int (-1) t_NO_SHOP)))
    (a_OTHER_BARS : PySem.W.nsIn K mainGlobals "OTHER_BARS" = some (some (.int (-2) t_OTHER_BARS)))
    (a_LEAD_TOO_LONG : PySem.W.nsIn K mainGlobals "LEAD_TOO_LONG" = some (some (.int (-3) t_LEAD_TOO_LONG)))
    (a_NO_CARTOON : PySem.W.nsIn K mainGlobals "NO_CARTOON" = some (some (.int (-5) t_NO_CARTOON)))
    (a_TOO_MANY_BYTES : PySem.W.nsIn K mainGlobals "TOO_MANY_BYTES" = some (some (.int (-6) t_TOO_MANY_BYTES)))
    (a_MOST_BYTES : PySem.W.nsIn K mainGlobals "MOST_BYTES" = some (some (.int (131072) t_MOST_BYTES)))
    (a_MOST_BEND : PySem.W.nsIn K mainGlobals "MOST_BEND" = some (some (.int (1000) t_MOST_BEND)))
    (a_MOST_BAR : PySem.W.nsIn K mainGlobals "MOST_BAR" = some (some (.int (16777215) t_MOST_BAR)))
    (a_MOST_LOSS : PySem.W.nsIn K mainGlobals "MOST_LOSS" = some (some (.int (65535) t_MOST_LOSS)))
    (a_MAGIC : PySem.W.nsIn K mainGlobals "MAGIC" = some (some (.ref aM)))
    (x_MAGIC : K.lookup aM = some ⟨.type "list", none, .seq #[.int 71 tM1, .int 76 tM2, .int 65 tM3, .int 49 tM4] nM, slM⟩)
    (n_len : PySem.W.nsIn K mainGlobals "len" = some none)
    (n_min : PySem.W.nsIn K mainGlobals "min" = some none)
    (n_max : PySem.W.nsIn K mainGlobals "max" = some none)
    (n_abs : PySem.W.nsIn K mainGlobals "abs" = some none)
    (n_int : PySem.W.nsIn K mainGlobals "int" = some none)
    (n_sorted : PySem.W.nsIn K mainGlobals "sorted" = some none)
    (n_list : PySem.W.nsIn K mainGlobals "list" = some none)
    (n_range : PySem.W.nsIn K mainGlobals "range" = some none)
    (n_enumerate : PySem.W.nsIn K mainGlobals "enumerate" = some none)
    (n_zip : PySem.W.nsIn K mainGlobals "zip" = some none)
    (g_Drawing : PySem.W.nsIn K mainGlobals "Drawing" = some (some (.ref aDrawing)))
    (pg_Drawing : PySem.W.plainGet K aDrawing Str.empty = true)
    (hd_Drawing : PySem.W.hasDictIn K aDrawing = true)
    (po_Drawing : PySem.W.plainOver K aDrawing = true)
    (sa_Drawing : PySem.W.findIn K (.ref aDrawing) "__setattr__" = some (some (.builtin "object.__setattr__")))
    (mk_Drawing : PySem.W.makesIn K aDrawing = true)
    (kc_Drawing : PySem.W.keepIn K (.ref aDrawing) = true)
    (a_Drawing_init : PySem.W.findIn K (.ref aDrawing) "__init__" = some (some (.ref f_Drawing_init)))
    (l_Drawing_init : K.lookup f_Drawing_init = some ⟨oc_Drawing_init, od_Drawing_init, .func (PySem.W.fnOf "__init__" "Drawing.__init__" (defArgs s_Drawing_init) (defBody s_Drawing_init) (defScope s_Drawing_init) .none kV_Drawing_init dc_Drawing_init pm_Drawing_init an_Drawing_init cd_Drawing_init ct_Drawing_init), sl_Drawing_init⟩)
    (c_Drawing_init : PySem.W.codeIn K cd_Drawing_init "Drawing.__init__" = true)
    (k_Drawing_init : PySem.W.keepIn K (.ref f_Drawing_init) = true)
    (i_Drawing_init : PySem.W.isFn K (.ref f_Drawing_init) = true)
    (a_Drawing_line_base : PySem.W.findIn K (.ref aDrawing) "line_base" = some (some (.ref f_Drawing_line_base)))
    (l_Drawing_line_base : K.lookup f_Drawing_line_base = some ⟨oc_Drawing_line_base, od_Drawing_line_base, .func (PySem.W.fnOf "line_base" "Drawing.line_base" (defArgs s_Drawing_line_base) (defBody s_Drawing_line_base) (defScope s_Drawing_line_base) .none kV_Drawing_line_base dc_Drawing_line_base pm_Drawing_line_base an_Drawing_line_base cd_Drawing_line_base ct_Drawing_line_base), sl_Drawing_line_base⟩)
    (c_Drawing_line_base : PySem.W.codeIn K cd_Drawing_line_base "Drawing.line_base" = true)
    (k_Drawing_line_base : PySem.W.keepIn K (.ref f_Drawing_line_base) = true)
    (i_Drawing_line_base : PySem.W.isFn K (.ref f_Drawing_line_base) = true)
    (a_Drawing_mark_base : PySem.W.findIn K (.ref aDrawing) "mark_base" = some (some (.ref f_Drawing_mark_base)))
    (l_Drawing_mark_base : K.lookup f_Drawing_mark_base = some ⟨oc_Drawing_mark_base, od_Drawing_mark_base, .func (PySem.W.fnOf "mark_base" "Drawing.mark_base" (defArgs s_Drawing_mark_base) (defBody s_Drawing_mark_base) (defScope s_Drawing_mark_base) .none kV_Drawing_mark_base dc_Drawing_mark_base pm_Drawing_mark_base an_Drawing_mark_base cd_Drawing_mark_base ct_Drawing_mark_base), sl_Drawing_mark_base⟩)
    (c_Drawing_mark_base : PySem.W.codeIn K cd_Drawing_mark_base "Drawing.mark_base" = true)
    (k_Drawing_mark_base : PySem.W.keepIn K (.ref f_Drawing_mark_base) = true)
    (i_Drawing_mark_base : PySem.W.isFn K (.ref f_Drawing_mark_base) = true)
    (a_Drawing_whole_size : PySem.W.findIn K (.ref aDrawing) "whole_size" = some (some (.ref f_Drawing_whole_size)))
    (l_Drawing_whole_size : K.lookup f_Drawing_whole_size = some ⟨oc_Drawing_whole_size, od_Drawing_whole_size, .func (PySem.W.fnOf "whole_size" "Drawing.whole_size" (defArgs s_Drawing_whole_size) (defBody s_Drawing_whole_size) (defScope s_Drawing_whole_size) .none kV_Drawing_whole_size dc_Drawing_whole_size pm_Drawing_whole_size an_Drawing_whole_size cd_Drawing_whole_size ct_Drawing_whole_size), sl_Drawing_whole_size⟩)
    (c_Drawing_whole_size : PySem.W.codeIn K cd_Drawing_whole_size "Drawing.whole_size" = true)
    (k_Drawing_whole_size : PySem.W.keepIn K (.ref f_Drawing_whole_size) = true)
    (i_Drawing_whole_size : PySem.W.isFn K (.ref f_Drawing_whole_size) = true)
    (a_Drawing_point_place : PySem.W.findIn K (.ref aDrawing) "point_place" = some (some (.ref f_Drawing_point_place)))
    (l_Drawing_point_place : K.lookup f_Drawing_point_place = some ⟨oc_Drawing_point_place, od_Drawing_point_place, .func (PySem.W.fnOf "point_place" "Drawing.point_place" (defArgs s_Drawing_point_place) (defBody s_Drawing_point_place) (defScope s_Drawing_point_place) .none kV_Drawing_point_place dc_Drawing_point_place pm_Drawing_point_place an_Drawing_point_place cd_Drawing_point_place ct_Drawing_point_place), sl_Drawing_point_place⟩)
    (c_Drawing_point_place : PySem.W.codeIn K cd_Drawing_point_place "Drawing.point_place" = true)
    (k_Drawing_point_place : PySem.W.keepIn K (.ref f_Drawing_point_place) = true)
    (i_Drawing_point_place : PySem.W.isFn K (.ref f_Drawing_point_place) = true)
    (a_Drawing_line_place : PySem.W.findIn K (.ref aDrawing) "line_place" = some (some (.ref f_Drawing_line_place)))
    (l_Drawing_line_place : K.lookup f_Drawing_line_place = some ⟨oc_Drawing_line_place, od_Drawing_line_place, .func (PySem.W.fnOf "line_place" "Drawing.line_place" (defArgs s_Drawing_line_place) (defBody s_Drawing_line_place) (defScope s_Drawing_line_place) .none kV_Drawing_line_place dc_Drawing_line_place pm_Drawing_line_place an_Drawing_line_place cd_Drawing_line_place ct_Drawing_line_place), sl_Drawing_line_place⟩)
    (c_Drawing_line_place : PySem.W.codeIn K cd_Drawing_line_place "Drawing.line_place" = true)
    (k_Drawing_line_place : PySem.W.keepIn K (.ref f_Drawing_line_place) = true)
    (i_Drawing_line_place : PySem.W.isFn K (.ref f_Drawing_line_place) = true)
    (a_Drawing_mark_place : PySem.W.findIn K (.ref aDrawing) "mark_place" = some (some (.ref f_Drawing_mark_place)))
    (l_Drawing_mark_place : K.lookup f_Drawing_mark_place = some ⟨oc_Drawing_mark_place, od_Drawing_mark_place, .func (PySem.W.fnOf "mark_place" "Drawing.mark_place" (defArgs s_Drawing_mark_place) (defBody s_Drawing_mark_place) (defScope s_Drawing_mark_place) .none kV_Drawing_mark_place dc_Drawing_mark_place pm_Drawing_mark_place an_Drawing_mark_place cd_Drawing_mark_place ct_Drawing_mark_place), sl_Drawing_mark_place⟩)
    (c_Drawing_mark_place : PySem.W.codeIn K cd_Drawing_mark_place "Drawing.mark_place" = true)
    (k_Drawing_mark_place : PySem.W.keepIn K (.ref f_Drawing_mark_place) = true)
    (i_Drawing_mark_place : PySem.W.isFn K (.ref f_Drawing_mark_place) = true)
    (a_Drawing_fill : PySem.W.findIn K (.ref aDrawing) "fill" = some (some (.ref f_Drawing_fill)))
    (l_Drawing_fill : K.lookup f_Drawing_fill = some ⟨oc_Drawing_fill, od_Drawing_fill, .func (PySem.W.fnOf "fill" "Drawing.fill" (defArgs s_Drawing_fill) (defBody s_Drawing_fill) (defScope s_Drawing_fill) .none kV_Drawing_fill dc_Drawing_fill pm_Drawing_fill an_Drawing_fill cd_Drawing_fill ct_Drawing_fill), sl_Drawing_fill⟩)
    (c_Drawing_fill : PySem.W.codeIn K cd_Drawing_fill "Drawing.fill" = true)
    (k_Drawing_fill : PySem.W.keepIn K (.ref f_Drawing_fill) = true)
    (i_Drawing_fill : PySem.W.isFn K (.ref f_Drawing_fill) = true)
    (a_Drawing_is_on_edge : PySem.W.findIn K (.ref aDrawing) "is_on_edge" = some (some (.ref f_Drawing_is_on_edge)))
    (l_Drawing_is_on_edge : K.lookup f_Drawing_is_on_edge = some ⟨oc_Drawing_is_on_edge, od_Drawing_is_on_edge, .func (PySem.W.fnOf "is_on_edge" "Drawing.is_on_edge" (defArgs s_Drawing_is_on_edge) (defBody s_Drawing_is_on_edge) (defScope s_Drawing_is_on_edge) .none kV_Drawing_is_on_edge dc_Drawing_is_on_edge pm_Drawing_is_on_edge an_Drawing_is_on_edge cd_Drawing_is_on_edge ct_Drawing_is_on_edge), sl_Drawing_is_on_edge⟩)
    (c_Drawing_is_on_edge : PySem.W.codeIn K cd_Drawing_is_on_edge "Drawing.is_on_edge" = true)
    (k_Drawing_is_on_edge : PySem.W.keepIn K (.ref f_Drawing_is_on_edge) = true)
    (i_Drawing_is_on_edge : PySem.W.isFn K (.ref f_Drawing_is_on_edge) = true)
    (na_Drawing_size : PySem.W.findIn K (.ref aDrawing) "size" = some none)
    (na_Drawing_width : PySem.W.findIn K (.ref aDrawing) "width" = some none)
    (na_Drawing_height : PySem.W.findIn K (.ref aDrawing) "height" = some none)
    (na_Drawing_counts : PySem.W.findIn K (.ref aDrawing) "counts" = some none)
    (na_Drawing_points : PySem.W.findIn K (.ref aDrawing) "points" = some none)
    (na_Drawing_lines : PySem.W.findIn K (.ref aDrawing) "lines" = some none)
    (na_Drawing_marks : PySem.W.findIn K (.ref aDrawing) "marks" = some none)
    (g_Pair : PySem.W.nsIn K mainGlobals "Pair" = some (some (.ref aPair)))
    (pg_Pair : PySem.W.plainGet K aPair Str.empty = true)
    (hd_Pair : PySem.W.hasDictIn K aPair = true)
    (po_Pair : PySem.W.plainOver K aPair = true)
    (sa_Pair : PySem.W.findIn K (.ref aPair) "__setattr__" = some (some (.builtin "object.__setattr__")))
    (mk_Pair : PySem.W.makesIn K aPair = true)
    (kc_Pair : PySem.W.keepIn K (.ref aPair) = true)
    (a_Pair_init : PySem.W.findIn K (.ref aPair) "__init__" = some (some (.ref f_Pair_init)))
    (l_Pair_init : K.lookup f_Pair_init = some ⟨oc_Pair_init, od_Pair_init, .func (PySem.W.fnOf "__init__" "Pair.__init__" (defArgs s_Pair_init) (defBody s_Pair_init) (defScope s_Pair_init) .none kV_Pair_init dc_Pair_init pm_Pair_init an_Pair_init cd_Pair_init ct_Pair_init), sl_Pair_init⟩)
    (c_Pair_init : PySem.W.codeIn K cd_Pair_init "Pair.__init__" = true)
    (k_Pair_init : PySem.W.keepIn K (.ref f_Pair_init) = true)
    (i_Pair_init : PySem.W.isFn K (.ref f_Pair_init) = true)
    (na_Pair_one : PySem.W.findIn K (.ref aPair) "one" = some none)
    (na_Pair_other : PySem.W.findIn K (.ref aPair) "other" = some none)
    (na_Pair_bend : PySem.W.findIn K (.ref aPair) "bend" = some none)
    (na_Pair_on : PySem.W.findIn K (.ref aPair) "on" = some none)
    (g_NoCartoon : PySem.W.nsIn K mainGlobals "NoCartoon" = some (some (.ref aNoCartoon)))
    (x_NoCartoon : K.lookup aNoCartoon = some (excClassObj nmNoCartoon qNoCartoon aNoCartoon NNoCartoon bsNoCartoon [.type "ValueError", .type "Exception", .type "BaseException", .type "object"] true snNoCartoon subNoCartoon abNoCartoon colNoCartoon ddNoCartoon m0NoCartoon m1NoCartoon m2NoCartoon m3NoCartoon m5NoCartoon "ValueError.__new__"))
    (sa_NoCartoon : PySem.W.findIn K (.ref aNoCartoon) "__setattr__" = some (some (.builtin "object.__setattr__")))
    (ga_NoCartoon : PySem.W.findIn K (.ref aNoCartoon) "__getattribute__" = some (some (.builtin "BaseException.__getattribute__")))
    (gg_NoCartoon : PySem.W.findIn K (.ref aNoCartoon) "__getattr__" = some none)
    (kC_NoCartoon : PySem.W.keepIn K (.ref aNoCartoon) = true)
    (eC_NoCartoon : PySem.W.subIn K (.ref aNoCartoon) (.type "BaseException") = some true)
    (tC_NoCartoon : PySem.W.typeIn K (.ref aNoCartoon) = some (.type "type"))
    (hC_NoCartoon : PySem.W.hasDictIn K aNoCartoon = true)
    (iC_NoCartoon : PySem.W.isClsIn K aNoCartoon = true)
    (sC_NoCartoon : PySem.W.subIn K (.ref aNoCartoon) (.ref aNoCartoon) = some true)
    (a_NoCartoon_init : PySem.W.findIn K (.ref aNoCartoon) "__init__" = some (some (.ref f_NoCartoon_init)))
    (l_NoCartoon_init : K.lookup f_NoCartoon_init = some ⟨oc_NoCartoon_init, od_NoCartoon_init, .func (PySem.W.fnOf "__init__" "NoCartoon.__init__" (defArgs s_NoCartoon_init) (defBody s_NoCartoon_init) (defScope s_NoCartoon_init) .none kV_NoCartoon_init dc_NoCartoon_init pm_NoCartoon_init an_NoCartoon_init cd_NoCartoon_init ct_NoCartoon_init), sl_NoCartoon_init⟩)
    (c_NoCartoon_init : PySem.W.codeIn K cd_NoCartoon_init "NoCartoon.__init__" = true)
    (k_NoCartoon_init : PySem.W.keepIn K (.ref f_NoCartoon_init) = true)
    (t_NoCartoon_init : PySem.W.typeIn K (.ref f_NoCartoon_init) = some (.type "function"))
    (no_NoCartoon_rule : PySem.W.findIn K (.ref aNoCartoon) "rule" = some none)
    (no_NoCartoon_place : PySem.W.findIn K (.ref aNoCartoon) "place" = some none)
    (g_TooLong : PySem.W.nsIn K mainGlobals "TooLong" = some (some (.ref aTooLong)))
    (x_TooLong : K.lookup aTooLong = some (excClassObj nmTooLong qTooLong aTooLong NTooLong bsTooLong [.type "ValueError", .type "Exception", .type "BaseException", .type "object"] true snTooLong subTooLong abTooLong colTooLong ddTooLong m0TooLong m1TooLong m2TooLong m3TooLong m5TooLong "ValueError.__new__"))
    (sa_TooLong : PySem.W.findIn K (.ref aTooLong) "__setattr__" = some (some (.builtin "object.__setattr__")))
    (ga_TooLong : PySem.W.findIn K (.ref aTooLong) "__getattribute__" = some (some (.builtin "BaseException.__getattribute__")))
    (gg_TooLong : PySem.W.findIn K (.ref aTooLong) "__getattr__" = some none)
    (kC_TooLong : PySem.W.keepIn K (.ref aTooLong) = true)
    (eC_TooLong : PySem.W.subIn K (.ref aTooLong) (.type "BaseException") = some true)
    (tC_TooLong : PySem.W.typeIn K (.ref aTooLong) = some (.type "type"))
    (hC_TooLong : PySem.W.hasDictIn K aTooLong = true)
    (iC_TooLong : PySem.W.isClsIn K aTooLong = true)
    (sC_TooLong : PySem.W.subIn K (.ref aTooLong) (.ref aTooLong) = some true)
    (a_TooLong_init : PySem.W.findIn K (.ref aTooLong) "__init__" = some (some (.ref f_TooLong_init)))
    (l_TooLong_init : K.lookup f_TooLong_init = some ⟨oc_TooLong_init, od_TooLong_init, .func (PySem.W.fnOf "__init__" "TooLong.__init__" (defArgs s_TooLong_init) (defBody s_TooLong_init) (defScope s_TooLong_init) .none kV_TooLong_init dc_TooLong_init pm_TooLong_init an_TooLong_init cd_TooLong_init ct_TooLong_init), sl_TooLong_init⟩)
    (c_TooLong_init : PySem.W.codeIn K cd_TooLong_init "TooLong.__init__" = true)
    (k_TooLong_init : PySem.W.keepIn K (.ref f_TooLong_init) = true)
    (t_TooLong_init : PySem.W.typeIn K (.ref f_TooLong_init) = some (.type "function"))
    (no_TooLong_lead : PySem.W.findIn K (.ref aTooLong) "lead" = some none) :
    ∃ fd : FuncData, (∀ (s : Shared) (us : List Value), us.length = (["a", "b", "bar", "joint", "loss", "cartoon", "row"] : List Str).length → BindsTo s fd ⟨us, []⟩ ((["a", "b", "bar", "joint", "loss", "cartoon", "row"] : List Str).zip us)) ∧ ∀ base : Heap, K.In base → base.Ns mainGlobals mg → FnOk P w K mg base CX0 11 fa fd ["a", "b", "bar", "joint", "loss", "cartoon", "row"] (spS04 K) := by
  obtain rfl : f_judge = fa := by
    have e := (PySem.W.mg_of X G a_judge).symm.trans hfa
    injection e with e
    injection e
  let T : Txt K mg := {
    turn := ⟨f_turn, (PySem.W.fnOf "turn" "turn" (defArgs s_turn) (defBody s_turn) (defScope s_turn) .none kV_turn dc_turn pm_turn an_turn cd_turn ct_turn), (fun_mk (st := s_turn) l_turn c_turn k_turn), PySem.W.mg_of X G a_turn, ((fun_mk (st := s_turn) l_turn c_turn k_turn).binds (ps := ["p", "q", "r"]) fun _ _ _ _ _ _ us hl => match us, hl with | [_, _, _], _ => rfl)⟩,
    onward := ⟨f_onward, (PySem.W.fnOf "onward" "onward" (defArgs s_onward) (defBody s_onward) (defScope s_onward) .none kV_onward dc_onward pm_onward an_onward cd_onward ct_onward), (fun_mk (st := s_onward) l_onward c_onward k_onward), PySem.W.mg_of X G a_onward, ((fun_mk (st := s_onward) l_onward c_onward k_onward).binds (ps := ["p", "v", "q"]) fun _ _ _ _ _ _ us hl => match us, hl with | [_, _, _], _ => rfl)⟩,
    is_between := ⟨f_is_between, (PySem.W.fnOf "is_between" "is_between" (defArgs s_is_between) (defBody s_is_between) (defScope s_is_between) .none kV_is_between dc_is_between pm_is_between an_is_between cd_is_between ct_is_between), (fun_mk (st := s_is_between) l_is_between c_is_between k_is_between), PySem.W.mg_of X G a_is_between, ((fun_mk (st := s_is_between) l_is_between c_is_between k_is_between).binds (ps := ["one", "other", "number"]) fun _ _ _ _ _ _ us hl => match us, hl with | [_, _, _], _ => rfl)⟩,
    is_on := ⟨f_is_on, (PySem.W.fnOf "is_on" "is_on" (defArgs s_is_on) (defBody s_is_on) (defScope s_is_on) .none kV_is_on dc_is_on pm_is_on an_is_on cd_is_on ct_is_on), (fun_mk (st := s_is_on) l_is_on c_is_on k_is_on), PySem.W.mg_of X G a_is_on, ((fun_mk (st := s_is_on) l_is_on c_is_on k_is_on).binds (ps := ["p", "q", "r"]) fun _ _ _ _ _ _ us hl => match us, hl with | [_, _, _], _ => rfl)⟩,
    are_apart := ⟨f_are_apart, (PySem.W.fnOf "are_apart" "are_apart" (defArgs s_are_apart) (defBody s_are_apart) (defScope s_are_apart) .none kV_are_apart dc_are_apart pm_are_apart an_are_apart cd_are_apart ct_are_apart), (fun_mk (st := s_are_apart) l_are_apart c_are_apart k_are_apart), PySem.W.mg_of X G a_are_apart, ((fun_mk (st := s_are_apart) l_are_apart c_are_apart k_are_apart).binds (ps := ["one", "other"]) fun _ _ _ _ _ _ us hl => match us, hl with | [_, _], _ => rfl)⟩,
    cross := ⟨f_cross, (PySem.W.fnOf "cross" "cross" (defArgs s_cross) (defBody s_cross) (defScope s_cross) .none kV_cross dc_cross pm_cross an_cross cd_cross ct_cross), (fun_mk (st := s_cross) l_cross c_cross k_cross), PySem.W.mg_of X G a_cross, ((fun_mk (st := s_cross) l_cross c_cross k_cross).binds (ps := ["p", "q", "r", "s"]) fun _ _ _ _ _ _ us hl => match us, hl with | [_, _, _, _], _ => rfl)⟩,
    comes_behind := ⟨f_comes_behind, (PySem.W.fnOf "comes_behind" "comes_behind" (defArgs s_comes_behind) (defBody s_comes_behind) (defScope s_comes_behind) .none kV_comes_behind dc_comes_behind pm_comes_behind an_comes_behind cd_comes_behind ct_comes_behind), (fun_mk (st := s_comes_behind) l_comes_behind c_comes_behind k_comes_behind), PySem.W.mg_of X G a_comes_behind, ((fun_mk (st := s_comes_behind) l_comes_behind c_comes_behind k_comes_behind).binds (ps := ["one", "other"]) fun _ _ _ _ _ _ us hl => match us, hl with | [_, _], _ => rfl)⟩,
    root_of := ⟨f_root_of, (PySem.W.fnOf "root_of" "root_of" (defArgs s_root_of) (defBody s_root_of) (defScope s_root_of) .none kV_root_of dc_root_of pm_root_of an_root_of cd_root_of ct_root_of), (fun_mk (st := s_root_of) l_root_of c_root_of k_root_of), PySem.W.mg_of X G a_root_of, ((fun_mk (st := s_root_of) l_root_of c_root_of k_root_of).binds (ps := ["number"]) fun _ _ _ _ _ _ us hl => match us, hl with | [_], _ => rfl)⟩,
    distance := ⟨f_distance, (PySem.W.fnOf "distance" "distance" (defArgs s_distance) (defBody s_distance) (defScope s_distance) .none kV_distance dc_distance pm_distance an_distance cd_distance ct_distance), (fun_mk (st := s_distance) l_distance c_distance k_distance), PySem.W.mg_of X G a_distance, ((fun_mk (st := s_distance) l_distance c_distance k_distance).binds (ps := ["p", "q"]) fun _ _ _ _ _ _ us hl => match us, hl with | [_, _], _ => rfl)⟩,
    number_at := ⟨f_number_at, (PySem.W.fnOf "number_at" "number_at" (defArgs s_number_at) (defBody s_number_at) (defScope s_number_at) .none kV_number_at dc_number_at pm_number_at an_number_at cd_number_at ct_number_at), (fun_mk (st := s_number_at) l_number_at c_number_at k_number_at), PySem.W.mg_of X G a_number_at, ((fun_mk (st := s_number_at) l_number_at c_number_at k_number_at).binds (ps := ["data", "at", "many"]) fun _ _ _ _ _ _ us hl => match us, hl with | [_, _, _], _ => rfl)⟩,
    ask := ⟨f_ask, (PySem.W.fnOf "ask" "ask" (defArgs s_ask) (defBody s_ask) (defScope s_ask) .none kV_ask dc_ask pm_ask an_ask cd_ask ct_ask), (fun_mk (st := s_ask) l_ask c_ask k_ask), PySem.W.mg_of X G a_ask, ((fun_mk (st := s_ask) l_ask c_ask k_ask).binds (ps := ["holds", "rule", "place"]) fun _ _ _ _ _ _ us hl => match us, hl with | [_, _, _], _ => rfl)⟩,
    check_head := ⟨f_check_head, (PySem.W.fnOf "check_head" "check_head" (defArgs s_check_head) (defBody s_check_head) (defScope s_check_head) .none kV_check_head dc_check_head pm_check_head an_check_head cd_check_head ct_check_head), (fun_mk (st := s_check_head) l_check_head c_check_head k_check_head), PySem.W.mg_of X G a_check_head, ((fun_mk (st := s_check_head) l_check_head c_check_head k_check_head).binds (ps := ["data", "drawing"]) fun _ _ _ _ _ _ us hl => match us, hl with | [_, _], _ => rfl)⟩,
    drawing_of := ⟨f_drawing_of, (PySem.W.fnOf "drawing_of" "drawing_of" (defArgs s_drawing_of) (defBody s_drawing_of) (defScope s_drawing_of) .none kV_drawing_of dc_drawing_of pm_drawing_of an_drawing_of cd_drawing_of ct_drawing_of), (fun_mk (st := s_drawing_of) l_drawing_of c_drawing_of k_drawing_of), PySem.W.mg_of X G a_drawing_of, ((fun_mk (st := s_drawing_of) l_drawing_of c_drawing_of k_drawing_of).binds (ps := ["data"]) fun _ _ _ _ _ _ us hl => match us, hl with | [_], _ => rfl)⟩,
    check_points := ⟨f_check_points, (PySem.W.fnOf "check_points" "check_points" (defArgs s_check_points) (defBody s_check_points) (defScope s_check_points) .none kV_check_points dc_check_points pm_check_points an_check_points cd_check_points ct_check_points), (fun_mk (st := s_check_points) l_check_points c_check_points k_check_points), PySem.W.mg_of X G a_check_points, ((fun_mk (st := s_check_points) l_check_points c_check_points k_check_points).binds (ps := ["drawing"]) fun _ _ _ _ _ _ us hl => match us, hl with | [_], _ => rfl)⟩,
    check_lines := ⟨f_check_lines, (PySem.W.fnOf "check_lines" "check_lines" (defArgs s_check_lines) (defBody s_check_lines) (defScope s_check_lines) .none kV_check_lines dc_check_lines pm_check_lines an_check_lines cd_check_lines ct_check_lines), (fun_mk (st := s_check_lines) l_check_lines c_check_lines k_check_lines), PySem.W.mg_of X G a_check_lines, ((fun_mk (st := s_check_lines) l_check_lines c_check_lines k_check_lines).binds (ps := ["drawing"]) fun _ _ _ _ _ _ us hl => match us, hl with | [_], _ => rfl)⟩,
    edges_of := ⟨f_edges_of, (PySem.W.fnOf "edges_of" "edges_of" (defArgs s_edges_of) (defBody s_edges_of) (defScope s_edges_of) .none kV_edges_of dc_edges_of pm_edges_of an_edges_of cd_edges_of ct_edges_of), (fun_mk (st := s_edges_of) l_edges_of c_edges_of k_edges_of), PySem.W.mg_of X G a_edges_of, ((fun_mk (st := s_edges_of) l_edges_of c_edges_of k_edges_of).binds (ps := ["drawing"]) fun _ _ _ _ _ _ us hl => match us, hl with | [_], _ => rfl)⟩,
    check_frame := ⟨f_check_frame, (PySem.W.fnOf "check_frame" "check_frame" (defArgs s_check_frame) (defBody s_check_frame) (defScope s_check_frame) .none kV_check_frame dc_check_frame pm_check_frame an_check_frame cd_check_frame ct_check_frame), (fun_mk (st := s_check_frame) l_check_frame c_check_frame k_check_frame), PySem.W.mg_of X G a_check_frame, ((fun_mk (st := s_check_frame) l_check_frame c_check_frame k_check_frame).binds (ps := ["drawing"]) fun _ _ _ _ _ _ us hl => match us, hl with | [_], _ => rfl)⟩,
    is_free := ⟨f_is_free, (PySem.W.fnOf "is_free" "is_free" (defArgs s_is_free) (defBody s_is_free) (defScope s_is_free) .none kV_is_free dc_is_free pm_is_free an_is_free cd_is_free ct_is_free), (fun_mk (st := s_is_free) l_is_free c_is_free k_is_free), PySem.W.mg_of X G a_is_free, ((fun_mk (st := s_is_free) l_is_free c_is_free k_is_free).binds (ps := ["drawing", "number"]) fun _ _ _ _ _ _ us hl => match us, hl with | [_, _], _ => rfl)⟩,
    check_crossings := ⟨f_check_crossings, (PySem.W.fnOf "check_crossings" "check_crossings" (defArgs s_check_crossings) (defBody s_check_crossings) (defScope s_check_crossings) .none kV_check_crossings dc_check_crossings pm_check_crossings an_check_crossings cd_check_crossings ct_check_crossings), (fun_mk (st := s_check_crossings) l_check_crossings c_check_crossings k_check_crossings), PySem.W.mg_of X G a_check_crossings, ((fun_mk (st := s_check_crossings) l_check_crossings c_check_crossings k_check_crossings).binds (ps := ["drawing"]) fun _ _ _ _ _ _ us hl => match us, hl with | [_], _ => rfl)⟩,
    neighbours_of := ⟨f_neighbours_of, (PySem.W.fnOf "neighbours_of" "neighbours_of" (defArgs s_neighbours_of) (defBody s_neighbours_of) (defScope s_neighbours_of) .none kV_neighbours_of dc_neighbours_of pm_neighbours_of an_neighbours_of cd_neighbours_of ct_neighbours_of), (fun_mk (st := s_neighbours_of) l_neighbours_of c_neighbours_of k_neighbours_of), PySem.W.mg_of X G a_neighbours_of, ((fun_mk (st := s_neighbours_of) l_neighbours_of c_neighbours_of k_neighbours_of).binds (ps := ["drawing"]) fun _ _ _ _ _ _ us hl => match us, hl with | [_], _ => rfl)⟩,
    reached := ⟨f_reached, (PySem.W.fnOf "reached" "reached" (defArgs s_reached) (defBody s_reached) (defScope s_reached) .none kV_reached dc_reached pm_reached an_reached cd_reached ct_reached), (fun_mk (st := s_reached) l_reached c_reached k_reached), PySem.W.mg_of X G a_reached, ((fun_mk (st := s_reached) l_reached c_reached k_reached).binds (ps := ["neighbours", "start", "left_out"]) fun _ _ _ _ _ _ us hl => match us, hl with | [_, _, _], _ => rfl)⟩,
    check_ways := ⟨f_check_ways, (PySem.W.fnOf "check_ways" "check_ways" (defArgs s_check_ways) (defBody s_check_ways) (defScope s_check_ways) .none kV_check_ways dc_check_ways pm_check_ways an_check_ways cd_check_ways ct_check_ways), (fun_mk (st := s_check_ways) l_check_ways c_check_ways k_check_ways), PySem.W.mg_of X G a_check_ways, ((fun_mk (st := s_check_ways) l_check_ways c_check_ways k_check_ways).binds (ps := ["drawing"]) fun _ _ _ _ _ _ us hl => match us, hl with | [_], _ => rfl)⟩,
    check_drawing := ⟨f_check_drawing, (PySem.W.fnOf "check_drawing" "check_drawing" (defArgs s_check_drawing) (defBody s_check_drawing) (defScope s_check_drawing) .none kV_check_drawing dc_check_drawing pm_check_drawing an_check_drawing cd_check_drawing ct_check_drawing), (fun_mk (st := s_check_drawing) l_check_drawing c_check_drawing k_check_drawing), PySem.W.mg_of X G a_check_drawing, ((fun_mk (st := s_check_drawing) l_check_drawing c_check_drawing k_check_drawing).binds (ps := ["drawing"]) fun _ _ _ _ _ _ us hl => match us, hl with | [_], _ => rfl)⟩,
    away := ⟨f_away, (PySem.W.fnOf "away" "away" (defArgs s_away) (defBody s_away) (defScope s_away) .none kV_away dc_away pm_away an_away cd_away ct_away), (fun_mk (st := s_away) l_away c_away k_away), PySem.W.mg_of X G a_away, ((fun_mk (st := s_away) l_away c_away k_away).binds (ps := ["drawing", "v", "u"]) fun _ _ _ _ _ _ us hl => match us, hl with | [_, _, _], _ => rfl)⟩,
    area := ⟨f_area, (PySem.W.fnOf "area" "area" (defArgs s_area) (defBody s_area) (defScope s_area) .none kV_area dc_area pm_area an_area cd_area ct_area), (fun_mk (st := s_area) l_area c_area k_area), PySem.W.mg_of X G a_area, ((fun_mk (st := s_area) l_area c_area k_area).binds (ps := ["one", "other"]) fun _ _ _ _ _ _ us hl => match us, hl with | [_, _], _ => rfl)⟩,
    half := ⟨f_half, (PySem.W.fnOf "half" "half" (defArgs s_half) (defBody s_half) (defScope s_half) .none kV_half dc_half pm_half an_half cd_half ct_half), (fun_mk (st := s_half) l_half c_half k_half), PySem.W.mg_of X G a_half, ((fun_mk (st := s_half) l_half c_half k_half).binds (ps := ["start", "way"]) fun _ _ _ _ _ _ us hl => match us, hl with | [_, _], _ => rfl)⟩,
    is_sooner := ⟨f_is_sooner, (PySem.W.fnOf "is_sooner" "is_sooner" (defArgs s_is_sooner) (defBody s_is_sooner) (defScope s_is_sooner) .none kV_is_sooner dc_is_sooner pm_is_sooner an_is_sooner cd_is_sooner ct_is_sooner), (fun_mk (st := s_is_sooner) l_is_sooner c_is_sooner k_is_sooner), PySem.W.mg_of X G a_is_sooner, ((fun_mk (st := s_is_sooner) l_is_sooner c_is_sooner k_is_sooner).binds (ps := ["start", "one", "other"]) fun _ _ _ _ _ _ us hl => match us, hl with | [_, _, _], _ => rfl)⟩,
    next_point := ⟨f_next_point, (PySem.W.fnOf "next_point" "next_point" (defArgs s_next_point) (defBody s_next_point) (defScope s_next_point) .none kV_next_point dc_next_point pm_next_point an_next_point cd_next_point ct_next_point), (fun_mk (st := s_next_point) l_next_point c_next_point k_next_point), PySem.W.mg_of X G a_next_point, ((fun_mk (st := s_next_point) l_next_point c_next_point k_next_point).binds (ps := ["drawing", "neighbours", "u", "v"]) fun _ _ _ _ _ _ us hl => match us, hl with | [_, _, _, _], _ => rfl)⟩,
    outline_from := ⟨f_outline_from, (PySem.W.fnOf "outline_from" "outline_from" (defArgs s_outline_from) (defBody s_outline_from) (defScope s_outline_from) .none kV_outline_from dc_outline_from pm_outline_from an_outline_from cd_outline_from ct_outline_from), (fun_mk (st := s_outline_from) l_outline_from c_outline_from k_outline_from), PySem.W.mg_of X G a_outline_from, ((fun_mk (st := s_outline_from) l_outline_from c_outline_from k_outline_from).binds (ps := ["drawing", "neighbours", "u", "v"]) fun _ _ _ _ _ _ us hl => match us, hl with | [_, _, _, _], _ => rfl)⟩,
    sides_of := ⟨f_sides_of, (PySem.W.fnOf "sides_of" "sides_of" (defArgs s_sides_of) (defBody s_sides_of) (defScope s_sides_of) .none kV_sides_of dc_sides_of pm_sides_of an_sides_of cd_sides_of ct_sides_of), (fun_mk (st := s_sides_of) l_sides_of c_sides_of k_sides_of), PySem.W.mg_of X G a_sides_of, ((fun_mk (st := s_sides_of) l_sides_of c_sides_of k_sides_of).binds (ps := ["outline"]) fun _ _ _ _ _ _ us hl => match us, hl with | [_], _ => rfl)⟩,
    is_to_left := ⟨f_is_to_left, (PySem.W.fnOf "is_to_left" "is_to_left" (defArgs s_is_to_left) (defBody s_is_to_left) (defScope s_is_to_left) .none kV_is_to_left dc_is_to_left pm_is_to_left an_is_to_left cd_is_to_left ct_is_to_left), (fun_mk (st := s_is_to_left) l_is_to_left c_is_to_left k_is_to_left), PySem.W.mg_of X G a_is_to_left, ((fun_mk (st := s_is_to_left) l_is_to_left c_is_to_left k_is_to_left).binds (ps := ["drawing", "outline"]) fun _ _ _ _ _ _ us hl => match us, hl with | [_, _], _ => rfl)⟩,
    outlines_of := ⟨f_outlines_of, (PySem.W.fnOf "outlines_of" "outlines_of" (defArgs s_outlines_of) (defBody s_outlines_of) (defScope s_outlines_of) .none kV_outlines_of dc_outlines_of pm_outlines_of an_outlines_of cd_outlines_of ct_outlines_of), (fun_mk (st := s_outlines_of) l_outlines_of c_outlines_of k_outlines_of), PySem.W.mg_of X G a_outlines_of, ((fun_mk (st := s_outlines_of) l_outlines_of c_outlines_of k_outlines_of).binds (ps := ["drawing"]) fun _ _ _ _ _ _ us hl => match us, hl with | [_], _ => rfl)⟩,
    is_passed := ⟨f_is_passed, (PySem.W.fnOf "is_passed" "is_passed" (defArgs s_is_passed) (defBody s_is_passed) (defScope s_is_passed) .none kV_is_passed dc_is_passed pm_is_passed an_is_passed cd_is_passed ct_is_passed), (fun_mk (st := s_is_passed) l_is_passed c_is_passed k_is_passed), PySem.W.mg_of X G a_is_passed, ((fun_mk (st := s_is_passed) l_is_passed c_is_passed k_is_passed).binds (ps := ["p", "q", "mark"]) fun _ _ _ _ _ _ us hl => match us, hl with | [_, _, _], _ => rfl)⟩,
    is_in := ⟨f_is_in, (PySem.W.fnOf "is_in" "is_in" (defArgs s_is_in) (defBody s_is_in) (defScope s_is_in) .none kV_is_in dc_is_in pm_is_in an_is_in cd_is_in ct_is_in), (fun_mk (st := s_is_in) l_is_in c_is_in k_is_in), PySem.W.mg_of X G a_is_in, ((fun_mk (st := s_is_in) l_is_in c_is_in k_is_in).binds (ps := ["drawing", "outline", "mark"]) fun _ _ _ _ _ _ us hl => match us, hl with | [_, _, _], _ => rfl)⟩,
    pane_of := ⟨f_pane_of, (PySem.W.fnOf "pane_of" "pane_of" (defArgs s_pane_of) (defBody s_pane_of) (defScope s_pane_of) .none kV_pane_of dc_pane_of pm_pane_of an_pane_of cd_pane_of ct_pane_of), (fun_mk (st := s_pane_of) l_pane_of c_pane_of k_pane_of), PySem.W.mg_of X G a_pane_of, ((fun_mk (st := s_pane_of) l_pane_of c_pane_of k_pane_of).binds (ps := ["drawing", "outlines", "mark"]) fun _ _ _ _ _ _ us hl => match us, hl with | [_, _, _], _ => rfl)⟩,
    is_on_line := ⟨f_is_on_line, (PySem.W.fnOf "is_on_line" "is_on_line" (defArgs s_is_on_line) (defBody s_is_on_line) (defScope s_is_on_line) .none kV_is_on_line dc_is_on_line pm_is_on_line an_is_on_line cd_is_on_line ct_is_on_line), (fun_mk (st := s_is_on_line) l_is_on_line c_is_on_line k_is_on_line), PySem.W.mg_of X G a_is_on_line, ((fun_mk (st := s_is_on_line) l_is_on_line c_is_on_line k_is_on_line).binds (ps := ["drawing", "mark"]) fun _ _ _ _ _ _ us hl => match us, hl with | [_, _], _ => rfl)⟩,
    check_marks := ⟨f_check_marks, (PySem.W.fnOf "check_marks" "check_marks" (defArgs s_check_marks) (defBody s_check_marks) (defScope s_check_marks) .none kV_check_marks dc_check_marks pm_check_marks an_check_marks cd_check_marks ct_check_marks), (fun_mk (st := s_check_marks) l_check_marks c_check_marks k_check_marks), PySem.W.mg_of X G a_check_marks, ((fun_mk (st := s_check_marks) l_check_marks c_check_marks k_check_marks).binds (ps := ["drawing"]) fun _ _ _ _ _ _ us hl => match us, hl with | [_], _ => rfl)⟩,
    check_panes := ⟨f_check_panes, (PySem.W.fnOf "check_panes" "check_panes" (defArgs s_check_panes) (defBody s_check_panes) (defScope s_check_panes) .none kV_check_panes dc_check_panes pm_check_panes an_check_panes cd_check_panes ct_check_panes), (fun_mk (st := s_check_panes) l_check_panes c_check_panes k_check_panes), PySem.W.mg_of X G a_check_panes, ((fun_mk (st := s_check_panes) l_check_panes c_check_panes k_check_panes).binds (ps := ["drawing"]) fun _ _ _ _ _ _ us hl => match us, hl with | [_], _ => rfl)⟩,
    cartoon_of := ⟨f_cartoon_of, (PySem.W.fnOf "cartoon_of" "cartoon_of" (defArgs s_cartoon_of) (defBody s_cartoon_of) (defScope s_cartoon_of) .none kV_cartoon_of dc_cartoon_of pm_cartoon_of an_cartoon_of cd_cartoon_of ct_cartoon_of), (fun_mk (st := s_cartoon_of) l_cartoon_of c_cartoon_of k_cartoon_of), PySem.W.mg_of X G a_cartoon_of, ((fun_mk (st := s_cartoon_of) l_cartoon_of c_cartoon_of k_cartoon_of).binds (ps := ["data"]) fun _ _ _ _ _ _ us hl => match us, hl with | [_], _ => rfl)⟩,
    is_edge_line := ⟨f_is_edge_line, (PySem.W.fnOf "is_edge_line" "is_edge_line" (defArgs s_is_edge_line) (defBody s_is_edge_line) (defScope s_is_edge_line) .none kV_is_edge_line dc_is_edge_line pm_is_edge_line an_is_edge_line cd_is_edge_line ct_is_edge_line), (fun_mk (st := s_is_edge_line) l_is_edge_line c_is_edge_line k_is_edge_line), PySem.W.mg_of X G a_is_edge_line, ((fun_mk (st := s_is_edge_line) l_is_edge_line c_is_edge_line k_is_edge_line).binds (ps := ["drawing", "line"]) fun _ _ _ _ _ _ us hl => match us, hl with | [_, _], _ => rfl)⟩,
    leads_of := ⟨f_leads_of, (PySem.W.fnOf "leads_of" "leads_of" (defArgs s_leads_of) (defBody s_leads_of) (defScope s_leads_of) .none kV_leads_of dc_leads_of pm_leads_of an_leads_of cd_leads_of ct_leads_of), (fun_mk (st := s_leads_of) l_leads_of c_leads_of k_leads_of), PySem.W.mg_of X G a_leads_of, ((fun_mk (st := s_leads_of) l_leads_of c_leads_of k_leads_of).binds (ps := ["drawing"]) fun _ _ _ _ _ _ us hl => match us, hl with | [_], _ => rfl)⟩,
    length_of := ⟨f_length_of, (PySem.W.fnOf "length_of" "length_of" (defArgs s_length_of) (defBody s_length_of) (defScope s_length_of) .none kV_length_of dc_length_of pm_length_of an_length_of cd_length_of ct_length_of), (fun_mk (st := s_length_of) l_length_of c_length_of k_length_of), PySem.W.mg_of X G a_length_of, ((fun_mk (st := s_length_of) l_length_of c_length_of k_length_of).binds (ps := ["drawing", "lead"]) fun _ _ _ _ _ _ us hl => match us, hl with | [_, _], _ => rfl)⟩,
    other_end := ⟨f_other_end, (PySem.W.fnOf "other_end" "other_end" (defArgs s_other_end) (defBody s_other_end) (defScope s_other_end) .none kV_other_end dc_other_end pm_other_end an_other_end cd_other_end ct_other_end), (fun_mk (st := s_other_end) l_other_end c_other_end k_other_end), PySem.W.mg_of X G a_other_end, ((fun_mk (st := s_other_end) l_other_end c_other_end k_other_end).binds (ps := ["drawing", "lead", "point"]) fun _ _ _ _ _ _ us hl => match us, hl with | [_, _, _], _ => rfl)⟩,
    ending_at := ⟨f_ending_at, (PySem.W.fnOf "ending_at" "ending_at" (defArgs s_ending_at) (defBody s_ending_at) (defScope s_ending_at) .none kV_ending_at dc_ending_at pm_ending_at an_ending_at cd_ending_at ct_ending_at), (fun_mk (st := s_ending_at) l_ending_at c_ending_at k_ending_at), PySem.W.mg_of X G a_ending_at, ((fun_mk (st := s_ending_at) l_ending_at c_ending_at k_ending_at).binds (ps := ["drawing", "leads"]) fun _ _ _ _ _ _ us hl => match us, hl with | [_, _], _ => rfl)⟩,
    pair_at := ⟨f_pair_at, (PySem.W.fnOf "pair_at" "pair_at" (defArgs s_pair_at) (defBody s_pair_at) (defScope s_pair_at) .none kV_pair_at dc_pair_at pm_pair_at an_pair_at cd_pair_at ct_pair_at), (fun_mk (st := s_pair_at) l_pair_at c_pair_at k_pair_at), PySem.W.mg_of X G a_pair_at, ((fun_mk (st := s_pair_at) l_pair_at c_pair_at k_pair_at).binds (ps := ["drawing", "v", "one", "other"]) fun _ _ _ _ _ _ us hl => match us, hl with | [_, _, _, _], _ => rfl)⟩,
    goes_through := ⟨f_goes_through, (PySem.W.fnOf "goes_through" "goes_through" (defArgs s_goes_through) (defBody s_goes_through) (defScope s_goes_through) .none kV_goes_through dc_goes_through pm_goes_through an_goes_through cd_goes_through ct_goes_through), (fun_mk (st := s_goes_through) l_goes_through c_goes_through k_goes_through), PySem.W.mg_of X G a_goes_through, ((fun_mk (st := s_goes_through) l_goes_through c_goes_through k_goes_through).binds (ps := ["pair", "a", "b"]) fun _ _ _ _ _ _ us hl => match us, hl with | [_, _, _], _ => rfl)⟩,
    is_ahead := ⟨f_is_ahead, (PySem.W.fnOf "is_ahead" "is_ahead" (defArgs s_is_ahead) (defBody s_is_ahead) (defScope s_is_ahead) .none kV_is_ahead dc_is_ahead pm_is_ahead an_is_ahead cd_is_ahead ct_is_ahead), (fun_mk (st := s_is_ahead) l_is_ahead c_is_ahead k_is_ahead), PySem.W.mg_of X G a_is_ahead, ((fun_mk (st := s_is_ahead) l_is_ahead c_is_ahead k_is_ahead).binds (ps := ["pair", "than"]) fun _ _ _ _ _ _ us hl => match us, hl with | [_, _], _ => rfl)⟩,
    first_pair := ⟨f_first_pair, (PySem.W.fnOf "first_pair" "first_pair" (defArgs s_first_pair) (defBody s_first_pair) (defScope s_first_pair) .none kV_first_pair dc_first_pair pm_first_pair an_first_pair cd_first_pair ct_first_pair), (fun_mk (st := s_first_pair) l_first_pair c_first_pair k_first_pair), PySem.W.mg_of X G a_first_pair, ((fun_mk (st := s_first_pair) l_first_pair c_first_pair k_first_pair).binds (ps := ["pairs"]) fun _ _ _ _ _ _ us hl => match us, hl with | [_], _ => rfl)⟩,
    pairs_at := ⟨f_pairs_at, (PySem.W.fnOf "pairs_at" "pairs_at" (defArgs s_pairs_at) (defBody s_pairs_at) (defScope s_pairs_at) .none kV_pairs_at dc_pairs_at pm_pairs_at an_pairs_at cd_pairs_at ct_pairs_at), (fun_mk (st := s_pairs_at) l_pairs_at c_pairs_at k_pairs_at), PySem.W.mg_of X G a_pairs_at, ((fun_mk (st := s_pairs_at) l_pairs_at c_pairs_at k_pairs_at).binds (ps := ["drawing", "v", "leads", "a", "b"]) fun _ _ _ _ _ _ us hl => match us, hl with | [_, _, _, _, _], _ => rfl)⟩,
    meets := ⟨f_meets, (PySem.W.fnOf "meets" "meets" (defArgs s_meets) (defBody s_meets) (defScope s_meets) .none kV_meets dc_meets pm_meets an_meets cd_meets ct_meets), (fun_mk (st := s_meets) l_meets c_meets k_meets), PySem.W.mg_of X G a_meets, ((fun_mk (st := s_meets) l_meets c_meets k_meets).binds (ps := ["pair", "taken"]) fun _ _ _ _ _ _ us hl => match us, hl with | [_, _], _ => rfl)⟩,
    join_at := ⟨f_join_at, (PySem.W.fnOf "join_at" "join_at" (defArgs s_join_at) (defBody s_join_at) (defScope s_join_at) .none kV_join_at dc_join_at pm_join_at an_join_at cd_join_at ct_join_at), (fun_mk (st := s_join_at) l_join_at c_join_at k_join_at), PySem.W.mg_of X G a_join_at, ((fun_mk (st := s_join_at) l_join_at c_join_at k_join_at).binds (ps := ["joins", "v", "pairs"]) fun _ _ _ _ _ _ us hl => match us, hl with | [_, _, _], _ => rfl)⟩,
    joins_of := ⟨f_joins_of, (PySem.W.fnOf "joins_of" "joins_of" (defArgs s_joins_of) (defBody s_joins_of) (defScope s_joins_of) .none kV_joins_of dc_joins_of pm_joins_of an_joins_of cd_joins_of ct_joins_of), (fun_mk (st := s_joins_of) l_joins_of c_joins_of k_joins_of), PySem.W.mg_of X G a_joins_of, ((fun_mk (st := s_joins_of) l_joins_of c_joins_of k_joins_of).binds (ps := ["drawing", "leads", "a", "b"]) fun _ _ _ _ _ _ us hl => match us, hl with | [_, _, _, _], _ => rfl)⟩,
    trail := ⟨f_trail, (PySem.W.fnOf "trail" "trail" (defArgs s_trail) (defBody s_trail) (defScope s_trail) .none kV_trail dc_trail pm_trail an_trail cd_trail ct_trail), (fun_mk (st := s_trail) l_trail c_trail k_trail), PySem.W.mg_of X G a_trail, ((fun_mk (st := s_trail) l_trail c_trail k_trail).binds (ps := ["drawing", "joins", "start", "point"]) fun _ _ _ _ _ _ us hl => match us, hl with | [_, _, _, _], _ => rfl)⟩,
    first_of_ring := ⟨f_first_of_ring, (PySem.W.fnOf "first_of_ring" "first_of_ring" (defArgs s_first_of_ring) (defBody s_first_of_ring) (defScope s_first_of_ring) .none kV_first_of_ring dc_first_of_ring pm_first_of_ring an_first_of_ring cd_first_of_ring ct_first_of_ring), (fun_mk (st := s_first_of_ring) l_first_of_ring c_first_of_ring k_first_of_ring), PySem.W.mg_of X G a_first_of_ring, ((fun_mk (st := s_first_of_ring) l_first_of_ring c_first_of_ring k_first_of_ring).binds (ps := ["drawing", "leads"]) fun _ _ _ _ _ _ us hl => match us, hl with | [_, _], _ => rfl)⟩,
    strip_of := ⟨f_strip_of, (PySem.W.fnOf "strip_of" "strip_of" (defArgs s_strip_of) (defBody s_strip_of) (defScope s_strip_of) .none kV_strip_of dc_strip_of pm_strip_of an_strip_of cd_strip_of ct_strip_of), (fun_mk (st := s_strip_of) l_strip_of c_strip_of k_strip_of), PySem.W.mg_of X G a_strip_of, ((fun_mk (st := s_strip_of) l_strip_of c_strip_of k_strip_of).binds (ps := ["drawing", "joins", "lead"]) fun _ _ _ _ _ _ us hl => match us, hl with | [_, _, _], _ => rfl)⟩,
    strips_of := ⟨f_strips_of, (PySem.W.fnOf "strips_of" "strips_of" (defArgs s_strips_of) (defBody s_strips_of) (defScope s_strips_of) .none kV_strips_of dc_strips_of pm_strips_of an_strips_of cd_strips_of ct_strips_of), (fun_mk (st := s_strips_of) l_strips_of c_strips_of k_strips_of), PySem.W.mg_of X G a_strips_of, ((fun_mk (st := s_strips_of) l_strips_of c_strips_of k_strips_of).binds (ps := ["drawing", "a", "b"]) fun _ _ _ _ _ _ us hl => match us, hl with | [_, _, _], _ => rfl)⟩,
    check_lengths := ⟨f_check_lengths, (PySem.W.fnOf "check_lengths" "check_lengths" (defArgs s_check_lengths) (defBody s_check_lengths) (defScope s_check_lengths) .none kV_check_lengths dc_check_lengths pm_check_lengths an_check_lengths cd_check_lengths ct_check_lengths), (fun_mk (st := s_check_lengths) l_check_lengths c_check_lengths k_check_lengths), PySem.W.mg_of X G a_check_lengths, ((fun_mk (st := s_check_lengths) l_check_lengths c_check_lengths k_check_lengths).binds (ps := ["drawing", "bar", "joint"]) fun _ _ _ _ _ _ us hl => match us, hl with | [_, _, _], _ => rfl)⟩,
    pieces_of_strip := ⟨f_pieces_of_strip, (PySem.W.fnOf "pieces_of_strip" "pieces_of_strip" (defArgs s_pieces_of_strip) (defBody s_pieces_of_strip) (defScope s_pieces_of_strip) .none kV_pieces_of_strip dc_pieces_of_strip pm_pieces_of_strip an_pieces_of_strip cd_pieces_of_strip ct_pieces_of_strip), (fun_mk (st := s_pieces_of_strip) l_pieces_of_strip c_pieces_of_strip k_pieces_of_strip), PySem.W.mg_of X G a_pieces_of_strip, ((fun_mk (st := s_pieces_of_strip) l_pieces_of_strip c_pieces_of_strip k_pieces_of_strip).binds (ps := ["drawing", "strip", "bar", "joint"]) fun _ _ _ _ _ _ us hl => match us, hl with | [_, _, _, _], _ => rfl)⟩,
    pieces_of := ⟨f_pieces_of, (PySem.W.fnOf "pieces_of" "pieces_of" (defArgs s_pieces_of) (defBody s_pieces_of) (defScope s_pieces_of) .none kV_pieces_of dc_pieces_of pm_pieces_of an_pieces_of cd_pieces_of ct_pieces_of), (fun_mk (st := s_pieces_of) l_pieces_of c_pieces_of k_pieces_of), PySem.W.mg_of X G a_pieces_of, ((fun_mk (st := s_pieces_of) l_pieces_of c_pieces_of k_pieces_of).binds (ps := ["drawing", "strips", "bar", "joint"]) fun _ _ _ _ _ _ us hl => match us, hl with | [_, _, _, _], _ => rfl)⟩,
    lengths_of := ⟨f_lengths_of, (PySem.W.fnOf "lengths_of" "lengths_of" (defArgs s_lengths_of) (defBody s_lengths_of) (defScope s_lengths_of) .none kV_lengths_of dc_lengths_of pm_lengths_of an_lengths_of cd_lengths_of ct_lengths_of), (fun_mk (st := s_lengths_of) l_lengths_of c_lengths_of k_lengths_of), PySem.W.mg_of X G a_lengths_of, ((fun_mk (st := s_lengths_of) l_lengths_of c_lengths_of k_lengths_of).binds (ps := ["pieces"]) fun _ _ _ _ _ _ us hl => match us, hl with | [_], _ => rfl)⟩,
    overfull := ⟨f_overfull, (PySem.W.fnOf "overfull" "overfull" (defArgs s_overfull) (defBody s_overfull) (defScope s_overfull) .none kV_overfull dc_overfull pm_overfull an_overfull cd_overfull ct_overfull), (fun_mk (st := s_overfull) l_overfull c_overfull k_overfull), PySem.W.mg_of X G a_overfull, ((fun_mk (st := s_overfull) l_overfull c_overfull k_overfull).binds (ps := ["lengths", "row", "bar", "loss"]) fun _ _ _ _ _ _ us hl => match us, hl with | [_, _, _, _], _ => rfl)⟩,
    is_shop := ⟨f_is_shop, (PySem.W.fnOf "is_shop" "is_shop" (defArgs s_is_shop) (defBody s_is_shop) (defScope s_is_shop) .none kV_is_shop dc_is_shop pm_is_shop an_is_shop cd_is_shop ct_is_shop), (fun_mk (st := s_is_shop) l_is_shop c_is_shop k_is_shop), PySem.W.mg_of X G a_is_shop, ((fun_mk (st := s_is_shop) l_is_shop c_is_shop k_is_shop).binds (ps := ["a", "b", "bar", "joint", "loss"]) fun _ _ _ _ _ _ us hl => match us, hl with | [_, _, _, _, _], _ => rfl)⟩,
    opened := ⟨f_opened, (PySem.W.fnOf "opened" "opened" (defArgs s_opened) (defBody s_opened) (defScope s_opened) .none kV_opened dc_opened pm_opened an_opened cd_opened ct_opened), (fun_mk (st := s_opened) l_opened c_opened k_opened), PySem.W.mg_of X G a_opened, ((fun_mk (st := s_opened) l_opened c_opened k_opened).binds (ps := ["good", "cartoon"]) fun _ _ _ _ _ _ us hl => match us, hl with | [_, _], _ => rfl)⟩,
    cut := ⟨f_cut, (PySem.W.fnOf "cut" "cut" (defArgs s_cut) (defBody s_cut) (defScope s_cut) .none kV_cut dc_cut pm_cut an_cut cd_cut ct_cut), (fun_mk (st := s_cut) l_cut c_cut k_cut), PySem.W.mg_of X G a_cut, ((fun_mk (st := s_cut) l_cut c_cut k_cut).binds (ps := ["drawing", "a", "b", "bar", "joint"]) fun _ _ _ _ _ _ us hl => match us, hl with | [_, _, _, _, _], _ => rfl)⟩,
    judge := ⟨f_judge, (PySem.W.fnOf "judge" "judge" (defArgs s_judge) (defBody s_judge) (defScope s_judge) .none kV_judge dc_judge pm_judge an_judge cd_judge ct_judge), (fun_mk (st := s_judge) l_judge c_judge k_judge), PySem.W.mg_of X G a_judge, ((fun_mk (st := s_judge) l_judge c_judge k_judge).binds (ps := ["a", "b", "bar", "joint", "loss", "cartoon", "row"]) fun _ _ _ _ _ _ us hl => match us, hl with | [_, _, _, _, _, _, _], _ => rfl)⟩,
    c_HEAD := ⟨_, PySem.W.mg_of X G a_HEAD⟩,
    c_LEAST_SIDE := ⟨_, PySem.W.mg_of X G a_LEAST_SIDE⟩,
    c_GREATEST_SIDE := ⟨_, PySem.W.mg_of X G a_GREATEST_SIDE⟩,
    c_POINT_BYTES := ⟨_, PySem.W.mg_of X G a_POINT_BYTES⟩,
    c_LINE_BYTES := ⟨_, PySem.W.mg_of X G a_LINE_BYTES⟩,
    c_MARK_BYTES := ⟨_, PySem.W.mg_of X G a_MARK_BYTES⟩,
    c_LONE := ⟨_, PySem.W.mg_of X G a_LONE⟩,
    c_DONE := ⟨_, PySem.W.mg_of X G a_DONE⟩,
    c_NO_SHOP := ⟨_, PySem.W.mg_of X G a_NO_SHOP⟩,
    c_OTHER_BARS := ⟨_, PySem.W.mg_of X G a_OTHER_BARS⟩,
    c_LEAD_TOO_LONG := ⟨_, PySem.W.mg_of X G a_LEAD_TOO_LONG⟩,
    c_NO_CARTOON := ⟨_, PySem.W.mg_of X G a_NO_CARTOON⟩,
    c_TOO_MANY_BYTES := ⟨_, PySem.W.mg_of X G a_TOO_MANY_BYTES⟩,
    c_MOST_BYTES := ⟨_, PySem.W.mg_of X G a_MOST_BYTES⟩,
    c_MOST_BEND := ⟨_, PySem.W.mg_of X G a_MOST_BEND⟩,
    c_MOST_BAR := ⟨_, PySem.W.mg_of X G a_MOST_BAR⟩,
    c_MOST_LOSS := ⟨_, PySem.W.mg_of X G a_MOST_LOSS⟩,
    a_MAGIC := aM,
    g_MAGIC := PySem.W.mg_of X G a_MAGIC,
    l_MAGIC := ⟨_, _, _, x_MAGIC, rfl, rfl, rfl, (by show 4 ≤ sizeLine; decide), .cons ⟨_, rfl⟩ (.cons ⟨_, rfl⟩ (.cons ⟨_, rfl⟩ (.cons ⟨_, rfl⟩ .nil)))⟩,
    n_len := PySem.W.mg_none_of X G n_len,
    n_min := PySem.W.mg_none_of X G n_min,
    n_max := PySem.W.mg_none_of X G n_max,
    n_abs := PySem.W.mg_none_of X G n_abs,
    n_int := PySem.W.mg_none_of X G n_int,
    n_sorted := PySem.W.mg_none_of X G n_sorted,
    n_list := PySem.W.mg_none_of X G n_list,
    n_range := PySem.W.mg_none_of X G n_range,
    n_enumerate := PySem.W.mg_none_of X G n_enumerate,
    n_zip := PySem.W.mg_none_of X G n_zip,
    Drawing := { C := aDrawing, g := PySem.W.mg_of X G g_Drawing, cl := ⟨pg_Drawing, hd_Drawing, po_Drawing, sa_Drawing⟩, init := ⟨f_Drawing_init, (PySem.W.fnOf "__init__" "Drawing.__init__" (defArgs s_Drawing_init) (defBody s_Drawing_init) (defScope s_Drawing_init) .none kV_Drawing_init dc_Drawing_init pm_Drawing_init an_Drawing_init cd_Drawing_init ct_Drawing_init), (fun_mk (st := s_Drawing_init) l_Drawing_init c_Drawing_init k_Drawing_init), ((fun_mk (st := s_Drawing_init) l_Drawing_init c_Drawing_init k_Drawing_init).binds (ps := ["self", "data"]) fun _ _ _ _ _ _ us hl => match us, hl with | [_, _], _ => rfl)⟩, M := ⟨mk_Drawing, a_Drawing_init, i_Drawing_init, kc_Drawing⟩, line_base := ⟨f_Drawing_line_base, (PySem.W.fnOf "line_base" "Drawing.line_base" (defArgs s_Drawing_line_base) (defBody s_Drawing_line_base) (defScope s_Drawing_line_base) .none kV_Drawing_line_base dc_Drawing_line_base pm_Drawing_line_base an_Drawing_line_base cd_Drawing_line_base ct_Drawing_line_base), (fun_mk (st := s_Drawing_line_base) l_Drawing_line_base c_Drawing_line_base k_Drawing_line_base), ((fun_mk (st := s_Drawing_line_base) l_Drawing_line_base c_Drawing_line_base k_Drawing_line_base).binds (ps := ["self"]) fun _ _ _ _ _ _ us hl => match us, hl with | [_], _ => rfl), ⟨a_Drawing_line_base, i_Drawing_line_base, k_Drawing_line_base⟩⟩, mark_base := ⟨f_Drawing_mark_base, (PySem.W.fnOf "mark_base" "Drawing.mark_base" (defArgs s_Drawing_mark_base) (defBody s_Drawing_mark_base) (defScope s_Drawing_mark_base) .none kV_Drawing_mark_base dc_Drawing_mark_base pm_Drawing_mark_base an_Drawing_mark_base cd_Drawing_mark_base ct_Drawing_mark_base), (fun_mk (st := s_Drawing_mark_base) l_Drawing_mark_base c_Drawing_mark_base k_Drawing_mark_base), ((fun_mk (st := s_Drawing_mark_base) l_Drawing_mark_base c_Drawing_mark_base k_Drawing_mark_base).binds (ps := ["self"]) fun _ _ _ _ _ _ us hl => match us, hl with | [_], _ => rfl), ⟨a_Drawing_mark_base, i_Drawing_mark_base, k_Drawing_mark_base⟩⟩, whole_size := ⟨f_Drawing_whole_size, (PySem.W.fnOf "whole_size" "Drawing.whole_size" (defArgs s_Drawing_whole_size) (defBody s_Drawing_whole_size) (defScope s_Drawing_whole_size) .none kV_Drawing_whole_size dc_Drawing_whole_size pm_Drawing_whole_size an_Drawing_whole_size cd_Drawing_whole_size ct_Drawing_whole_size), (fun_mk (st := s_Drawing_whole_size) l_Drawing_whole_size c_Drawing_whole_size k_Drawing_whole_size), ((fun_mk (st := s_Drawing_whole_size) l_Drawing_whole_size c_Drawing_whole_size k_Drawing_whole_size).binds (ps := ["self"]) fun _ _ _ _ _ _ us hl => match us, hl with | [_], _ => rfl), ⟨a_Drawing_whole_size, i_Drawing_whole_size, k_Drawing_whole_size⟩⟩, point_place := ⟨f_Drawing_point_place, (PySem.W.fnOf "point_place" "Drawing.point_place" (defArgs s_Drawing_point_place) (defBody s_Drawing_point_place) (defScope s_Drawing_point_place) .none kV_Drawing_point_place dc_Drawing_point_place pm_Drawing_point_place an_Drawing_point_place cd_Drawing_point_place ct_Drawing_point_place), (fun_mk (st := s_Drawing_point_place) l_Drawing_point_place c_Drawing_point_place k_Drawing_point_place), ((fun_mk (st := s_Drawing_point_place) l_Drawing_point_place c_Drawing_point_place k_Drawing_point_place).binds (ps := ["self", "number"]) fun _ _ _ _ _ _ us hl => match us, hl with | [_, _], _ => rfl), ⟨a_Drawing_point_place, i_Drawing_point_place, k_Drawing_point_place⟩⟩, line_place := ⟨f_Drawing_line_place, (PySem.W.fnOf "line_place" "Drawing.line_place" (defArgs s_Drawing_line_place) (defBody s_Drawing_line_place) (defScope s_Drawing_line_place) .none kV_Drawing_line_place dc_Drawing_line_place pm_Drawing_line_place an_Drawing_line_place cd_Drawing_line_place ct_Drawing_line_place), (fun_mk (st := s_Drawing_line_place) l_Drawing_line_place c_Drawing_line_place k_Drawing_line_place), ((fun_mk (st := s_Drawing_line_place) l_Drawing_line_place c_Drawing_line_place k_Drawing_line_place).binds (ps := ["self", "number"]) fun _ _ _ _ _ _ us hl => match us, hl with | [_, _], _ => rfl), ⟨a_Drawing_line_place, i_Drawing_line_place, k_Drawing_line_place⟩⟩, mark_place := ⟨f_Drawing_mark_place, (PySem.W.fnOf "mark_place" "Drawing.mark_place" (defArgs s_Drawing_mark_place) (defBody s_Drawing_mark_place) (defScope s_Drawing_mark_place) .none kV_Drawing_mark_place dc_Drawing_mark_place pm_Drawing_mark_place an_Drawing_mark_place cd_Drawing_mark_place ct_Drawing_mark_place), (fun_mk (st := s_Drawing_mark_place) l_Drawing_mark_place c_Drawing_mark_place k_Drawing_mark_place), ((fun_mk (st := s_Drawing_mark_place) l_Drawing_mark_place c_Drawing_mark_place k_Drawing_mark_place).binds (ps := ["self", "number"]) fun _ _ _ _ _ _ us hl => match us, hl with | [_, _], _ => rfl), ⟨a_Drawing_mark_place, i_Drawing_mark_place, k_Drawing_mark_place⟩⟩, fill := ⟨f_Drawing_fill, (PySem.W.fnOf "fill" "Drawing.fill" (defArgs s_Drawing_fill) (defBody s_Drawing_fill) (defScope s_Drawing_fill) .none kV_Drawing_fill dc_Drawing_fill pm_Drawing_fill an_Drawing_fill cd_Drawing_fill ct_Drawing_fill), (fun_mk (st := s_Drawing_fill) l_Drawing_fill c_Drawing_fill k_Drawing_fill), ((fun_mk (st := s_Drawing_fill) l_Drawing_fill c_Drawing_fill k_Drawing_fill).binds (ps := ["self", "data"]) fun _ _ _ _ _ _ us hl => match us, hl with | [_, _], _ => rfl), ⟨a_Drawing_fill, i_Drawing_fill, k_Drawing_fill⟩⟩, is_on_edge := ⟨f_Drawing_is_on_edge, (PySem.W.fnOf "is_on_edge" "Drawing.is_on_edge" (defArgs s_Drawing_is_on_edge) (defBody s_Drawing_is_on_edge) (defScope s_Drawing_is_on_edge) .none kV_Drawing_is_on_edge dc_Drawing_is_on_edge pm_Drawing_is_on_edge an_Drawing_is_on_edge cd_Drawing_is_on_edge ct_Drawing_is_on_edge), (fun_mk (st := s_Drawing_is_on_edge) l_Drawing_is_on_edge c_Drawing_is_on_edge k_Drawing_is_on_edge), ((fun_mk (st := s_Drawing_is_on_edge) l_Drawing_is_on_edge c_Drawing_is_on_edge k_Drawing_is_on_edge).binds (ps := ["self", "number"]) fun _ _ _ _ _ _ us hl => match us, hl with | [_, _], _ => rfl), ⟨a_Drawing_is_on_edge, i_Drawing_is_on_edge, k_Drawing_is_on_edge⟩⟩, na_size := na_Drawing_size, na_width := na_Drawing_width, na_height := na_Drawing_height, na_counts := na_Drawing_counts, na_points := na_Drawing_points, na_lines := na_Drawing_lines, na_marks := na_Drawing_marks },
    Pair := { C := aPair, g := PySem.W.mg_of X G g_Pair, cl := ⟨pg_Pair, hd_Pair, po_Pair, sa_Pair⟩, init := ⟨f_Pair_init, (PySem.W.fnOf "__init__" "Pair.__init__" (defArgs s_Pair_init) (defBody s_Pair_init) (defScope s_Pair_init) .none kV_Pair_init dc_Pair_init pm_Pair_init an_Pair_init cd_Pair_init ct_Pair_init), (fun_mk (st := s_Pair_init) l_Pair_init c_Pair_init k_Pair_init), ((fun_mk (st := s_Pair_init) l_Pair_init c_Pair_init k_Pair_init).binds (ps := ["self", "one", "other", "bend", "on"]) fun _ _ _ _ _ _ us hl => match us, hl with | [_, _, _, _, _], _ => rfl)⟩, M := ⟨mk_Pair, a_Pair_init, i_Pair_init, kc_Pair⟩, na_one := na_Pair_one, na_other := na_Pair_other, na_bend := na_Pair_bend, na_on := na_Pair_on },
    x_NoCartoon := { C := aNoCartoon, g := PySem.W.mg_of X G g_NoCartoon, ox := ⟨⟨nmNoCartoon, qNoCartoon, NNoCartoon, bsNoCartoon, _, snNoCartoon, subNoCartoon, abNoCartoon, colNoCartoon, ddNoCartoon, m0NoCartoon, m1NoCartoon, m2NoCartoon, m3NoCartoon, m5NoCartoon, x_NoCartoon, by decide +kernel⟩, sa_NoCartoon, eC_NoCartoon, tC_NoCartoon, kC_NoCartoon⟩, xf := ⟨ga_NoCartoon, gg_NoCartoon, eC_NoCartoon, hC_NoCartoon⟩, init := ⟨f_NoCartoon_init, (PySem.W.fnOf "__init__" "NoCartoon.__init__" (defArgs s_NoCartoon_init) (defBody s_NoCartoon_init) (defScope s_NoCartoon_init) .none kV_NoCartoon_init dc_NoCartoon_init pm_NoCartoon_init an_NoCartoon_init cd_NoCartoon_init ct_NoCartoon_init), (fun_mk (st := s_NoCartoon_init) l_NoCartoon_init c_NoCartoon_init k_NoCartoon_init), ((fun_mk (st := s_NoCartoon_init) l_NoCartoon_init c_NoCartoon_init k_NoCartoon_init).binds (ps := ["self", "rule", "place"]) fun _ _ _ _ _ _ us hl => match us, hl with | [_, _, _], _ => rfl)⟩, iC := a_NoCartoon_init, tI := t_NoCartoon_init, te := exm_self eC_NoCartoon iC_NoCartoon tC_NoCartoon sC_NoCartoon },
    no_rule := no_NoCartoon_rule,
    no_place := no_NoCartoon_place,
    x_TooLong := { C := aTooLong, g := PySem.W.mg_of X G g_TooLong, ox := ⟨⟨nmTooLong, qTooLong, NTooLong, bsTooLong, _, snTooLong, subTooLong, abTooLong, colTooLong, ddTooLong, m0TooLong, m1TooLong, m2TooLong, m3TooLong, m5TooLong, x_TooLong, by decide +kernel⟩, sa_TooLong, eC_TooLong, tC_TooLong, kC_TooLong⟩, xf := ⟨ga_TooLong, gg_TooLong, eC_TooLong, hC_TooLong⟩, init := ⟨f_TooLong_init, (PySem.W.fnOf "__init__" "TooLong.__init__" (defArgs s_TooLong_init) (defBody s_TooLong_init) (defScope s_TooLong_init) .none kV_TooLong_init dc_TooLong_init pm_TooLong_init an_TooLong_init cd_TooLong_init ct_TooLong_init), (fun_mk (st := s_TooLong_init) l_TooLong_init c_TooLong_init k_TooLong_init), ((fun_mk (st := s_TooLong_init) l_TooLong_init c_TooLong_init k_TooLong_init).binds (ps := ["self", "lead"]) fun _ _ _ _ _ _ us hl => match us, hl with | [_, _], _ => rfl)⟩, iC := a_TooLong_init, tI := t_TooLong_init, te := exm_self eC_TooLong iC_TooLong tC_TooLong sC_TooLong },
    no_lead := no_TooLong_lead }
  exact ⟨(PySem.W.fnOf "judge" "judge" (defArgs s_judge) (defBody s_judge) (defScope s_judge) .none kV_judge dc_judge pm_judge an_judge cd_judge ct_judge), fun s us hu => match us, hu with | [_, _, _, _, _, _, _], _ => .of_eq rfl, fun base _ _ => ok_judge T⟩
end Lead
open PySem PySem.W PyProof.Rows
set_option maxRecDepth 100000 in
set_option maxHeartbeats 16000000 in
theorem PySem.Challenge.cw_leadstrips_s04_judge_holds : PySem.Challenge.rw_leadstrips_s04_judge.Holds := by
  w_on; k_headS; (case hw => exact ⟨[.int 0, .int 0, .int 0, .int 0, .int 0, .list [], .list []], by decide +kernel, by decide +kernel⟩)
  k_fillS
  refine L2.walk_specK (r := PySem.Challenge.rw_leadstrips_s04_judge) (k := 11) (CX := L2.CX0) (ps := ["a", "b", "bar", "joint", "loss", "cartoon", "row"]) (sp := Lead.spS04) (by decide +kernel) rfl rfl ⟨rfl, by decide, by decide⟩ (fun w h Y => PySem.W.kIn_of Y) ?F ?S (fun _ _ _ _ z => z)
  case F =>
    intro w mg fa h Y KX G hmg
    refine' Lead.all_mk KX G hmg ?a_turn ?l_turn ?c_turn ?k_turn ?a_onward ?l_onward ?c_onward ?k_onward ?a_is_between ?l_is_between ?c_is_between ?k_is_between ?a_is_on ?l_is_on ?c_is_on ?k_is_on ?a_are_apart ?l_are_apart ?c_are_apart ?k_are_apart ?a_cross ?l_cross ?c_cross ?k_cross ?a_comes_behind ?l_comes_behind ?c_comes_behind ?k_comes_behind ?a_root_of ?l_root_of ?c_root_of ?k_root_of ?a_distance ?l_distance ?c_distance ?k_distance ?a_number_at ?l_number_at ?c_number_at ?k_number_at ?a_ask ?l_ask ?c_ask ?k_ask ?a_check_head ?l_check_head ?c_check_head ?k_check_head ?a_drawing_of ?l_drawing_of ?c_drawing_of ?k_drawing_of ?a_check_points ?l_check_points ?c_check_points ?k_check_points ?a_check_lines ?l_check_lines ?c_check_lines ?k_check_lines ?a_edges_of ?l_edges_of ?c_edges_of ?k_edges_of ?a_check_frame ?l_check_frame ?c_check_frame ?k_check_frame ?a_is_free ?l_is_free ?c_is_free ?k_is_free ?a_check_crossings ?l_check_crossings ?c_check_crossings ?k_check_crossings ?a_neighbours_of ?l_neighbours_of ?c_neighbours_of ?k_neighbours_of ?a_reached ?l_reached ?c_reached ?k_reached ?a_check_ways ?l_check_ways ?c_check_ways ?k_check_ways ?a_check_drawing ?l_check_drawing ?c_check_drawing ?k_check_drawing ?a_away ?l_away ?c_away ?k_away ?a_area ?l_area ?c_area ?k_area ?a_half ?l_half ?c_half ?k_half ?a_is_sooner ?l_is_sooner ?c_is_sooner ?k_is_sooner ?a_next_point ?l_next_point ?c_next_point ?k_next_point ?a_outline_from ?l_outline_from ?c_outline_from ?k_outline_from ?a_sides_of ?l_sides_of ?c_sides_of ?k_sides_of ?a_is_to_left ?l_is_to_left ?c_is_to_left ?k_is_to_left ?a_outlines_of ?l_outlines_of ?c_outlines_of ?k_outlines_of ?a_is_passed ?l_is_passed ?c_is_passed ?k_is_passed ?a_is_in ?l_is_in ?c_is_in ?k_is_in ?a_pane_of ?l_pane_of ?c_pane_of ?k_pane_of ?a_is_on_line ?l_is_on_line ?c_is_on_line ?k_is_on_line ?a_check_marks ?l_check_marks ?c_check_marks ?k_check_marks ?a_check_panes ?l_check_panes ?c_check_panes ?k_check_panes ?a_cartoon_of ?l_cartoon_of ?c_cartoon_of ?k_cartoon_of ?a_is_edge_line ?l_is_edge_line ?c_is_edge_line ?k_is_edge_line ?a_leads_of ?l_leads_of ?c_leads_of ?k_leads_of ?a_length_of ?l_length_of ?c_length_of ?k_length_of ?a_other_end ?l_other_end ?c_other_end ?k_other_end ?a_ending_at ?l_ending_at ?c_ending_at ?k_ending_at ?a_pair_at ?l_pair_at ?c_pair_at ?k_pair_at ?a_goes_through ?l_goes_through ?c_goes_through ?k_goes_through ?a_is_ahead ?l_is_ahead ?c_is_ahead ?k_is_ahead ?a_first_pair ?l_first_pair ?c_first_pair ?k_first_pair ?a_pairs_at ?l_pairs_at ?c_pairs_at ?k_pairs_at ?a_meets ?l_meets ?c_meets ?k_meets ?a_join_at ?l_join_at ?c_join_at ?k_join_at ?a_joins_of ?l_joins_of ?c_joins_of ?k_joins_of ?a_trail ?l_trail ?c_trail ?k_trail ?a_first_of_ring ?l_first_of_ring ?c_first_of_ring ?k_first_of_ring ?a_strip_of ?l_strip_of ?c_strip_of ?k_strip_of ?a_strips_of ?l_strips_of ?c_strips_of ?k_strips_of ?a_check_lengths ?l_check_lengths ?c_check_lengths ?k_check_lengths ?a_pieces_of_strip ?l_pieces_of_strip ?c_pieces_of_strip ?k_pieces_of_strip ?a_pieces_of ?l_pieces_of ?c_pieces_of ?k_pieces_of ?a_lengths_of ?l_lengths_of ?c_lengths_of ?k_lengths_of ?a_overfull ?l_overfull ?c_overfull ?k_overfull ?a_is_shop ?l_is_shop ?c_is_shop ?k_is_shop ?a_opened ?l_opened ?c_opened ?k_opened ?a_cut ?l_cut ?c_cut ?k_cut ?a_judge ?l_judge ?c_judge ?k_judge ?a_HEAD ?a_LEAST_SIDE ?a_GREATEST_SIDE ?a_POINT_BYTES ?a_LINE_BYTES ?a_MARK_BYTES ?a_LONE ?a_DONE ?a_NO_SHOP ?a_OTHER_BARS ?a_LEAD_TOO_LONG ?a_NO_CARTOON ?a_TOO_MANY_BYTES ?a_MOST_BYTES ?a_MOST_BEND ?a_MOST_BAR ?a_MOST_LOSS ?a_MAGIC ?x_MAGIC ?n_len ?n_min ?n_max ?n_abs ?n_int ?n_sorted ?n_list ?n_range ?n_enumerate ?n_zip ?g_Drawing ?pg_Drawing ?hd_Drawing ?po_Drawing ?sa_Drawing ?mk_Drawing ?kc_Drawing ?a_Drawing_init ?l_Drawing_init ?c_Drawing_init ?k_Drawing_init ?i_Drawing_init ?a_Drawing_line_base ?l_Drawing_line_base ?c_Drawing_line_base ?k_Drawing_line_base ?i_Drawing_line_base ?a_Drawing_mark_base ?l_Drawing_mark_base ?c_Drawing_mark_base ?k_Drawing_mark_base ?i_Drawing_mark_base ?a_Drawing_whole_size ?l_Drawing_whole_size ?c_Drawing_whole_size ?k_Drawing_whole_size ?i_Drawing_whole_size ?a_Drawing_point_place ?l_Drawing_point_place ?c_Drawing_point_place ?k_Drawing_point_place ?i_Drawing_point_place ?a_Drawing_line_place ?l_Drawing_line_place ?c_Drawing_line_place ?k_Drawing_line_place ?i_Drawing_line_place ?a_Drawing_mark_place ?l_Drawing_mark_place ?c_Drawing_mark_place ?k_Drawing_mark_place ?i_Drawing_mark_place ?a_Drawing_fill ?l_Drawing_fill ?c_Drawing_fill ?k_Drawing_fill ?i_Drawing_fill ?a_Drawing_is_on_edge ?l_Drawing_is_on_edge ?c_Drawing_is_on_edge ?k_Drawing_is_on_edge ?i_Drawing_is_on_edge ?na_Drawing_size ?na_Drawing_width ?na_Drawing_height ?na_Drawing_counts ?na_Drawing_points ?na_Drawing_lines ?na_Drawing_marks ?g_Pair ?pg_Pair ?hd_Pair ?po_Pair ?sa_Pair ?mk_Pair ?kc_Pair ?a_Pair_init ?l_Pair_init ?c_Pair_init ?k_Pair_init ?i_Pair_init ?na_Pair_one ?na_Pair_other ?na_Pair_bend ?na_Pair_on ?g_NoCartoon ?x_NoCartoon ?sa_NoCartoon ?ga_NoCartoon ?gg_NoCartoon ?kC_NoCartoon ?eC_NoCartoon ?tC_NoCartoon ?hC_NoCartoon ?iC_NoCartoon ?sC_NoCartoon ?a_NoCartoon_init ?l_NoCartoon_init ?c_NoCartoon_init ?k_NoCartoon_init ?t_NoCartoon_init ?no_NoCartoon_rule ?no_NoCartoon_place ?g_TooLong ?x_TooLong ?sa_TooLong ?ga_TooLong ?gg_TooLong ?kC_TooLong ?eC_TooLong ?tC_TooLong ?hC_TooLong ?iC_TooLong ?sC_TooLong ?a_TooLong_init ?l_TooLong_init ?c_TooLong_init ?k_TooLong_init ?t_TooLong_init ?no_TooLong_lead
    (case a_turn => k_is)
    (case l_turn => k_is)
    (case c_turn => k_is)
    (case k_turn => k_is)
    (case a_onward => k_is)
    (case l_onward => k_is)
    (case c_onward => k_is)
    (case k_onward => k_is)
    (case a_is_between => k_is)
    (case l_is_between => k_is)
    (case c_is_between => k_is)
    (case k_is_between => k_is)
    (case a_is_on => k_is)
    (case l_is_on => k_is)
    (case c_is_on => k_is)
    (case k_is_on => k_is)
    (case a_are_apart => k_is)
    (case l_are_apart => k_is)
    (case c_are_apart => k_is)
    (case k_are_apart => k_is)
    (case a_cross => k_is)
    (case l_cross => k_is)
    (case c_cross => k_is)
    (case k_cross => k_is)
    (case a_comes_behind => k_is)
    (case l_comes_behind => k_is)
    (case c_comes_behind => k_is)
    (case k_comes_behind => k_is)
    (case a_root_of => k_is)
    (case l_root_of => k_is)
    (case c_root_of => k_is)
    (case k_root_of => k_is)
    (case a_distance => k_is)
    (case l_distance => k_is)
    (case c_distance => k_is)
    (case k_distance => k_is)
    (case a_number_at => k_is)
    (case l_number_at => k_is)
    (case c_number_at => k_is)
    (case k_number_at => k_is)
    (case a_ask => k_is)
    (case l_ask => k_is)
    (case c_ask => k_is)
    (case k_ask => k_is)
    (case a_check_head => k_is)
    (case l_check_head => k_is)
    (case c_check_head => k_is)
    (case k_check_head => k_is)
    (case a_drawing_of => k_is)
    (case l_drawing_of => k_is)
    (case c_drawing_of => k_is)
    (case k_drawing_of => k_is)
    (case a_check_points => k_is)
    (case l_check_points => k_is)
    (case c_check_points => k_is)
    (case k_check_points => k_is)
    (case a_check_lines => k_is)
    (case l_check_lines => k_is)
    (case c_check_lines => k_is)
    (case k_check_lines => k_is)
    (case a_edges_of => k_is)
    (case l_edges_of => k_is)
    (case c_edges_of => k_is)
    (case k_edges_of => k_is)
    (case a_check_frame => k_is)
    (case l_check_frame => k_is)
    (case c_check_frame => k_is)
    (case k_check_frame => k_is)
    (case a_is_free => k_is)
    (case l_is_free => k_is)
    (case c_is_free => k_is)
    (case k_is_free => k_is)
    (case a_check_crossings => k_is)
    (case l_check_crossings => k_is)
    (case c_check_crossings => k_is)
    (case k_check_crossings => k_is)
    (case a_neighbours_of => k_is)
    (case l_neighbours_of => k_is)
    (case c_neighbours_of => k_is)
    (case k_neighbours_of => k_is)
    (case a_reached => k_is)
    (case l_reached => k_is)
    (case c_reached => k_is)
    (case k_reached => k_is)
    (case a_check_ways => k_is)
    (case l_check_ways => k_is)
    (case c_check_ways => k_is)
    (case k_check_ways => k_is)
    (case a_check_drawing => k_is)
    (case l_check_drawing => k_is)
    (case c_check_drawing => k_is)
    (case k_check_drawing => k_is)
    (case a_away => k_is)
    (case l_away => k_is)
    (case c_away => k_is)
    (case k_away => k_is)
    (case a_area => k_is)
    (case l_area => k_is)
    (case c_area => k_is)
    (case k_area => k_is)
    (case a_half => k_is)
    (case l_half => k_is)
    (case c_half => k_is)
    (case k_half => k_is)
    (case a_is_sooner => k_is)
    (case l_is_sooner => k_is)
    (case c_is_sooner => k_is)
    (case k_is_sooner => k_is)
    (case a_next_point => k_is)
    (case l_next_point => k_is)
    (case c_next_point => k_is)
    (case k_next_point => k_is)
    (case a_outline_from => k_is)
    (case l_outline_from => k_is)
    (case c_outline_from => k_is)
    (case k_outline_from => k_is)
    (case a_sides_of => k_is)
    (case l_sides_of => k_is)
    (case c_sides_of => k_is)
    (case k_sides_of => k_is)
    (case a_is_to_left => k_is)
    (case l_is_to_left => k_is)
    (case c_is_to_left => k_is)
    (case k_is_to_left => k_is)
    (case a_outlines_of => k_is)
    (case l_outlines_of => k_is)
    (case c_outlines_of => k_is)
    (case k_outlines_of => k_is)
    (case a_is_passed => k_is)
    (case l_is_passed => k_is)
    (case c_is_passed => k_is)
    (case k_is_passed => k_is)
    (case a_is_in => k_is)
    (case l_is_in => k_is)
    (case c_is_in => k_is)
    (case k_is_in => k_is)
    (case a_pane_of => k_is)
    (case l_pane_of => k_is)
    (case c_pane_of => k_is)
    (case k_pane_of => k_is)
    (case a_is_on_line => k_is)
    (case l_is_on_line => k_is)
    (case c_is_on_line => k_is)
    (case k_is_on_line => k_is)
    (case a_check_marks => k_is)
    (case l_check_marks => k_is)
    (case c_check_marks => k_is)
    (case k_check_marks => k_is)
    (case a_check_panes => k_is)
    (case l_check_panes => k_is)
    (case c_check_panes => k_is)
    (case k_check_panes => k_is)
    (case a_cartoon_of => k_is)
    (case l_cartoon_of => k_is)
    (case c_cartoon_of => k_is)
    (case k_cartoon_of => k_is)
    (case a_is_edge_line => k_is)
    (case l_is_edge_line => k_is)
    (case c_is_edge_line => k_is)
    (case k_is_edge_line => k_is)
    (case a_leads_of => k_is)
    (case l_leads_of => k_is)
    (case c_leads_of => k_is)
    (case k_leads_of => k_is)
    (case a_length_of => k_is)
    (case l_length_of => k_is)
    (case c_length_of => k_is)
    (case k_length_of => k_is)
    (case a_other_end => k_is)
    (case l_other_end => k_is)
    (case c_other_end => k_is)
    (case k_other_end => k_is)
    (case a_ending_at => k_is)
    (case l_ending_at => k_is)
    (case c_ending_at => k_is)
    (case k_ending_at => k_is)
    (case a_pair_at => k_is)
    (case l_pair_at => k_is)
    (case c_pair_at => k_is)
    (case k_pair_at => k_is)
    (case a_goes_through => k_is)
    (case l_goes_through => k_is)
    (case c_goes_through => k_is)
    (case k_goes_through => k_is)
    (case a_is_ahead => k_is)
    (case l_is_ahead => k_is)
    (case c_is_ahead => k_is)
    (case k_is_ahead => k_is)
    (case a_first_pair => k_is)
    (case l_first_pair => k_is)
    (case c_first_pair => k_is)
    (case k_first_pair => k_is)
    (case a_pairs_at => k_is)
    (case l_pairs_at => k_is)
    (case c_pairs_at => k_is)
    (case k_pairs_at => k_is)
    (case a_meets => k_is)
    (case l_meets => k_is)
    (case c_meets => k_is)
    (case k_meets => k_is)
    (case a_join_at => k_is)
    (case l_join_at => k_is)
    (case c_join_at => k_is)
    (case k_join_at => k_is)
    (case a_joins_of => k_is)
    (case l_joins_of => k_is)
    (case c_joins_of => k_is)
    (case k_joins_of => k_is)
    (case a_trail => k_is)
    (case l_trail => k_is)
    (case c_trail => k_is)
    (case k_trail => k_is)
    (case a_first_of_ring => k_is)
    (case l_first_of_ring => k_is)
    (case c_first_of_ring => k_is)
    (case k_first_of_ring => k_is)
    (case a_strip_of => k_is)
    (case l_strip_of => k_is)
    (case c_strip_of => k_is)
    (case k_strip_of => k_is)
    (case a_strips_of => k_is)
    (case l_strips_of => k_is)
    (case c_strips_of => k_is)
    (case k_strips_of => k_is)
    (case a_check_lengths => k_is)
    (case l_check_lengths => k_is)
    (case c_check_lengths => k_is)
    (case k_check_lengths => k_is)
    (case a_pieces_of_strip => k_is)
    (case l_pieces_of_strip => k_is)
    (case c_pieces_of_strip => k_is)
    (case k_pieces_of_strip => k_is)
    (case a_pieces_of => k_is)
    (case l_pieces_of => k_is)
    (case c_pieces_of => k_is)
    (case k_pieces_of => k_is)
    (case a_lengths_of => k_is)
    (case l_lengths_of => k_is)
    (case c_lengths_of => k_is)
    (case k_lengths_of => k_is)
    (case a_overfull => k_is)
    (case l_overfull => k_is)
    (case c_overfull => k_is)
    (case k_overfull => k_is)
    (case a_is_shop => k_is)
    (case l_is_shop => k_is)
    (case c_is_shop => k_is)
    (case k_is_shop => k_is)
    (case a_opened => k_is)
    (case l_opened => k_is)
    (case c_opened => k_is)
    (case k_opened => k_is)
    (case a_cut => k_is)
    (case l_cut => k_is)
    (case c_cut => k_is)
    (case k_cut => k_is)
    (case a_judge => k_is)
    (case l_judge => k_is)
    (case c_judge => k_is)
    (case k_judge => k_is)
    (case a_HEAD => k_is)
    (case a_LEAST_SIDE => k_is)
    (case a_GREATEST_SIDE => k_is)
    (case a_POINT_BYTES => k_is)
    (case a_LINE_BYTES => k_is)
    (case a_MARK_BYTES => k_is)
    (case a_LONE => k_is)
    (case a_DONE => k_is)
    (case a_NO_SHOP => k_is)
    (case a_OTHER_BARS => k_is)
    (case a_LEAD_TOO_LONG => k_is)
    (case a_NO_CARTOON => k_is)
    (case a_TOO_MANY_BYTES => k_is)
    (case a_MOST_BYTES => k_is)
    (case a_MOST_BEND => k_is)
    (case a_MOST_BAR => k_is)
    (case a_MOST_LOSS => k_is)
    (case a_MAGIC => k_is)
    (case x_MAGIC => k_is)
    (case n_len => k_is)
    (case n_min => k_is)
    (case n_max => k_is)
    (case n_abs => k_is)
    (case n_int => k_is)
    (case n_sorted => k_is)
    (case n_list => k_is)
    (case n_range => k_is)
    (case n_enumerate => k_is)
    (case n_zip => k_is)
    (case g_Drawing => k_is)
    (case pg_Drawing => k_is)
    (case hd_Drawing => k_is)
    (case po_Drawing => k_is)
    (case sa_Drawing => k_is)
    (case mk_Drawing => k_is)
    (case kc_Drawing => k_is)
    (case a_Drawing_init => k_is)
    (case l_Drawing_init => k_is)
    (case c_Drawing_init => k_is)
    (case k_Drawing_init => k_is)
    (case i_Drawing_init => k_is)
    (case a_Drawing_line_base => k_is)
    (case l_Drawing_line_base => k_is)
    (case c_Drawing_line_base => k_is)
    (case k_Drawing_line_base => k_is)
    (case i_Drawing_line_base => k_is)
    (case a_Drawing_mark_base => k_is)
    (case l_Drawing_mark_base => k_is)
    (case c_Drawing_mark_base => k_is)
    (case k_Drawing_mark_base => k_is)
    (case i_Drawing_mark_base => k_is)
    (case a_Drawing_whole_size => k_is)
    (case l_Drawing_whole_size => k_is)
    (case c_Drawing_whole_size => k_is)
    (case k_Drawing_whole_size => k_is)
    (case i_Drawing_whole_size => k_is)
    (case a_Drawing_point_place => k_is)
    (case l_Drawing_point_place => k_is)
    (case c_Drawing_point_place => k_is)
    (case k_Drawing_point_place => k_is)
    (case i_Drawing_point_place => k_is)
    (case a_Drawing_line_place => k_is)
    (case l_Drawing_line_place => k_is)
    (case c_Drawing_line_place => k_is)
    (case k_Drawing_line_place => k_is)
    (case i_Drawing_line_place => k_is)
    (case a_Drawing_mark_place => k_is)
    (case l_Drawing_mark_place => k_is)
    (case c_Drawing_mark_place => k_is)
    (case k_Drawing_mark_place => k_is)
    (case i_Drawing_mark_place => k_is)
    (case a_Drawing_fill => k_is)
    (case l_Drawing_fill => k_is)
    (case c_Drawing_fill => k_is)
    (case k_Drawing_fill => k_is)
    (case i_Drawing_fill => k_is)
    (case a_Drawing_is_on_edge => k_is)
    (case l_Drawing_is_on_edge => k_is)
    (case c_Drawing_is_on_edge => k_is)
    (case k_Drawing_is_on_edge => k_is)
    (case i_Drawing_is_on_edge => k_is)
    (case na_Drawing_size => k_is)
    (case na_Drawing_width => k_is)
    (case na_Drawing_height => k_is)
    (case na_Drawing_counts => k_is)
    (case na_Drawing_points => k_is)
    (case na_Drawing_lines => k_is)
    (case na_Drawing_marks => k_is)
    (case g_Pair => k_is)
    (case pg_Pair => k_is)
    (case hd_Pair => k_is)
    (case po_Pair => k_is)
    (case sa_Pair => k_is)
    (case mk_Pair => k_is)
    (case kc_Pair => k_is)
    (case a_Pair_init => k_is)
    (case l_Pair_init => k_is)
    (case c_Pair_init => k_is)
    (case k_Pair_init => k_is)
    (case i_Pair_init => k_is)
    (case na_Pair_one => k_is)
    (case na_Pair_other => k_is)
    (case na_Pair_bend => k_is)
    (case na_Pair_on => k_is)
    (case g_NoCartoon => k_is)
    (case x_NoCartoon => k_is)
    (case sa_NoCartoon => k_is)
    (case ga_NoCartoon => k_is)
    (case gg_NoCartoon => k_is)
    (case kC_NoCartoon => k_is)
    (case eC_NoCartoon => k_is)
    (case tC_NoCartoon => k_is)
    (case hC_NoCartoon => k_is)
    (case iC_NoCartoon => k_is)
    (case sC_NoCartoon => first | rfl | k_is)
    (case a_NoCartoon_init => k_is)
    (case l_NoCartoon_init => k_is)
    (case c_NoCartoon_init => k_is)
    (case k_NoCartoon_init => k_is)
    (case t_NoCartoon_init => k_is)
    (case no_NoCartoon_rule => k_is)
    (case no_NoCartoon_place => k_is)
    (case g_TooLong => k_is)
    (case x_TooLong => k_is)
    (case sa_TooLong => k_is)
    (case ga_TooLong => k_is)
    (case gg_TooLong => k_is)
    (case kC_TooLong => k_is)
    (case eC_TooLong => k_is)
    (case tC_TooLong => k_is)
    (case hC_TooLong => k_is)
    (case iC_TooLong => k_is)
    (case sC_TooLong => first | rfl | k_is)
    (case a_TooLong_init => k_is)
    (case l_TooLong_init => k_is)
    (case c_TooLong_init => k_is)
    (case k_TooLong_init => k_is)
    (case t_TooLong_init => k_is)
    (case no_TooLong_lead => k_is)
  case S =>
    intro K H xs a hO hwi hask hx
    cases hx with
    | cons h1 hx =>
    cases hx with
    | cons h2 hx =>
    cases hx with
    | cons h3 hx =>
    cases hx with
    | cons h4 hx =>
    cases hx with
    | cons h5 hx =>
    cases hx with
    | cons h6 hx =>
    cases hx with
    | cons h7 hx =>
    cases hx
    cases h1
    cases h2
    cases h3
    cases h4
    cases h5
    cases h6 with
    | lst hs ha =>
      cases h7 with
      | lst hs2 ha2 =>
      have e := L2.ints_dw a.2.2.2.2.2.1 _ ha
      subst e
      have e2 := L2.ints_dw a.2.2.2.2.2.2.1 _ ha2
      subst e2
      have q : (Codec.inInt 0 36893488147419103231 a.1 && (Codec.inInt 0 36893488147419103231 a.2.1 && (Codec.inInt 0 36893488147419103231 a.2.2.1 && (Codec.inInt 0 36893488147419103231 a.2.2.2.1 && (Codec.inInt 0 36893488147419103231 a.2.2.2.2.1 && ((Codec.inLen 0 100000 a.2.2.2.2.2.1 && a.2.2.2.2.2.1.all (Codec.inInt 0 255)) && ((Codec.inLen 0 2000 a.2.2.2.2.2.2.1 && a.2.2.2.2.2.2.1.all (Codec.inInt 0 36893488147419103231)) && true))))))) = true := hwi
      simp only [Bool.and_eq_true, Codec.inInt_iff, List.all_eq_true] at q
      obtain ⟨q1, q2, q3, q4, q5, ⟨_, q6⟩, ⟨q7, q8⟩, _⟩ := q
      have q9 : a.2.2.2.2.2.2.1.length ≤ 2000 := by
        unfold Codec.inLen Codec.inNat at q7
        simp at q7
        omega
      exact Lead.s04_args ⟨q1.1, q2.1, q3.1, q4.1, q5.1⟩ q6 (fun z hz => (q8 z hz).1) q9 hask hs hs2 fun H' p hp => .lst (L2.SqL.of hp) (L2.dw_ints _)
#print axioms PySem.Challenge.cw_leadstrips_s04_judge_holds
