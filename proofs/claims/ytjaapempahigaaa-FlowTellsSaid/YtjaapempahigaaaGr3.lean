/- Graphs over numbers, plain: the rows of what is above each block, made less and less till they stand. -/
import Derived.Test.YtjaapempahigaaaGr2
namespace Go.Proofs.Ytjaapempahigaaa

def Srt (l : List Nat) : Prop := l.Pairwise (· < ·)

theorem Srt.nodup {l : List Nat} (h : Srt l) : l.Nodup := h.imp (fun h => Nat.ne_of_lt h)
theorem srt_eq : ∀ {l m : List Nat}, Srt l → Srt m → (∀ x, x ∈ l ↔ x ∈ m) → l = m := by
  intro l
  induction l with
  | nil =>
    intro m _ _ h
    cases m with
    | nil => rfl
    | cons y m => have := (h y).2 (by simp); cases this
  | cons x l ih =>
    intro m hl hm h
    cases m with
    | nil => have := (h x).1 (by simp); cases this
    | cons y m =>
      have hl' := List.pairwise_cons.1 hl
      have hm' := List.pairwise_cons.1 hm
      have exy : x = y := by
        have h1 := (h x).1 (by simp)
        have h2 := (h y).2 (by simp)
        rcases List.mem_cons.1 h1 with e | e
        · exact e
        · rcases List.mem_cons.1 h2 with e' | e'
          · exact e'.symm
          · have a1 := hm'.1 x e
            have a2 := hl'.1 y e'
            omega
      subst exy
      rw [ih hl'.2 hm'.2 (fun z => ?_)]
      constructor
      · intro hz
        rcases List.mem_cons.1 ((h z).1 (by simp [hz])) with rfl | e
        · have := hl'.1 z hz; omega
        · exact e
      · intro hz
        rcases List.mem_cons.1 ((h z).2 (by simp [hz])) with rfl | e
        · have := hm'.1 z hz; omega
        · exact e
theorem srt_len : ∀ {l m : List Nat}, Srt l → Srt m → (∀ x, x ∈ l → x ∈ m) → l.length ≤ m.length ∧ (l.length = m.length → l = m) := by
  intro l m
  induction m generalizing l with
  | nil =>
    intro _ _ h
    cases l with
    | nil => simp
    | cons x l => have := h x (by simp); cases this
  | cons y m ih =>
    intro hl hm h
    have hm' := List.pairwise_cons.1 hm
    cases l with
    | nil => simp
    | cons x l =>
      have hl' := List.pairwise_cons.1 hl
      by_cases e : x = y
      · subst e
        have hsub : ∀ z, z ∈ l → z ∈ m := fun z hz => by
          rcases List.mem_cons.1 (h z (by simp [hz])) with rfl | e
          · have := hl'.1 z hz; omega
          · exact e
        have := ih hl'.2 hm'.2 hsub
        refine ⟨by simp; omega, fun hh => ?_⟩
        rw [this.2 (by simpa using hh)]
      · have hsub : ∀ z, z ∈ x :: l → z ∈ m := fun z hz => by
          rcases List.mem_cons.1 (h z hz) with rfl | e'
          · rcases List.mem_cons.1 (h x (by simp)) with e2 | e2
            · exact absurd e2 e
            · rcases List.mem_cons.1 hz with e3 | e3
              · exact absurd e3.symm e
              · have a1 := hl'.1 z e3
                have a2 := hm'.1 x e2
                omega
          · exact e'
        have := ih hl hm'.2 hsub
        refine ⟨by simp at this ⊢; omega, fun hh => ?_⟩
        simp at this hh
        omega
theorem srt_range (n : Nat) (p : Nat → Bool) : Srt ((List.range n).filter p) := List.Pairwise.filter _ List.pairwise_lt_range
theorem srt_filter {l : List Nat} (h : Srt l) (p : Nat → Bool) : Srt (l.filter p) := List.Pairwise.filter _ h
theorem srt_lt {l : List Nat} {n : Nat} (h : Srt l) (hn : ∀ x ∈ l, x < n) : l.length ≤ n := by
  have := (srt_len (l := l) (m := List.range n) h List.pairwise_lt_range (fun x hx => by simpa using hn x hx)).1
  simpa using this

/-- Where b stands in a rising row. -/
def place (l : List Nat) (b : Nat) : Nat := (l.filter (fun x => decide (x < b))).length
def insAt (l : List Nat) (b : Nat) : List Nat := l.take (place l b) ++ b :: l.drop (place l b)
theorem split_srt {l : List Nat} (h : Srt l) (b : Nat) : l.take (place l b) = l.filter (fun x => decide (x < b)) ∧ l.drop (place l b) = l.filter (fun x => decide (b ≤ x)) := by
  unfold place
  induction l with
  | nil => simp
  | cons x l ih =>
    have hl' := List.pairwise_cons.1 h
    have := ih hl'.2
    by_cases e : x < b
    · have e2 : ¬ b ≤ x := by omega
      simp [e, e2, this.1, this.2]
    · have e2 : b ≤ x := by omega
      have hz : l.filter (fun x => decide (x < b)) = [] := by
        rw [List.filter_eq_nil_iff]
        intro z hz
        have := hl'.1 z hz
        simp; omega
      have hall : l.filter (fun x => decide (b ≤ x)) = l := by
        rw [List.filter_eq_self]
        intro z hz
        have := hl'.1 z hz
        simp; omega
      simp [e, e2, hz, hall]
theorem insAt_mem {l : List Nat} {b x : Nat} : x ∈ insAt l b ↔ x = b ∨ x ∈ l := by
  unfold insAt
  rw [List.mem_append, List.mem_cons]
  conv => rhs; rw [← List.take_append_drop (place l b) l, List.mem_append]
  constructor
  · rintro (h | h | h)
    · exact .inr (.inl h)
    · exact .inl h
    · exact .inr (.inr h)
  · rintro (h | h | h)
    · exact .inr (.inl h)
    · exact .inl h
    · exact .inr (.inr h)
theorem insAt_srt {l : List Nat} (h : Srt l) {b : Nat} (hb : b ∉ l) : Srt (insAt l b) := by
  unfold insAt
  rw [(split_srt h b).1, (split_srt h b).2]
  unfold Srt
  rw [List.pairwise_append]
  refine ⟨srt_filter h _, List.pairwise_cons.2 ⟨fun x hx => ?_, srt_filter h _⟩, fun x hx y hy => ?_⟩
  · simp only [List.mem_filter, decide_eq_true_eq] at hx
    have : x ≠ b := fun e => hb (e ▸ hx.1)
    omega
  · simp only [List.mem_filter, decide_eq_true_eq] at hx
    rcases List.mem_cons.1 hy with rfl | hy
    · exact hx.2
    · simp only [List.mem_filter, decide_eq_true_eq] at hy
      omega

/-- One more row is met. -/
def meet1 (out : Nat → Option (List Nat)) (acc : Option (List Nat)) (k : Nat) : Option (List Nat) :=
  match out k with
  | none => acc
  | some r => match acc with
    | none => some r
    | some l => some (l.filter fun x => decide (x ∈ r))
def meet (out : Nat → Option (List Nat)) (ks : List Nat) : Option (List Nat) := ks.foldl (meet1 out) none

theorem meet_acc (out : Nat → Option (List Nat)) : ∀ (ks : List Nat) (acc : Option (List Nat)),
    ((ks.foldl (meet1 out) acc) = none ↔ acc = none ∧ ∀ k ∈ ks, out k = none) ∧
    (∀ l, ks.foldl (meet1 out) acc = some l → ∀ x, x ∈ l ↔ (∀ l0, acc = some l0 → x ∈ l0) ∧ ∀ k ∈ ks, ∀ r, out k = some r → x ∈ r) ∧
    ((∀ l0, acc = some l0 → Srt l0) → (∀ k ∈ ks, ∀ r, out k = some r → Srt r) → ∀ l, ks.foldl (meet1 out) acc = some l → Srt l) := by
  intro ks
  induction ks with
  | nil =>
    intro acc
    refine ⟨by simp, fun l h x => ?_, fun h _ l hl => h l hl⟩
    simp only [List.foldl_nil] at h
    subst h
    simp
  | cons k ks ih =>
    intro acc
    simp only [List.foldl_cons]
    obtain ⟨h1, h2, h3⟩ := ih (meet1 out acc k)
    cases hk : out k with
    | none =>
      have em : meet1 out acc k = acc := by simp [meet1, hk]
      rw [em] at h1 h2 h3 ⊢
      refine ⟨by rw [h1]; simp [hk], fun l hl x => ?_, fun ha hs l hl => h3 ha (fun k' hk' => hs k' (by simp [hk'])) l hl⟩
      rw [h2 l hl x]
      simp [hk]
    | some r =>
      refine ⟨?_, fun l hl x => ?_, fun ha hs l hl => ?_⟩
      · rw [h1]
        constructor
        · rintro ⟨h, _⟩; exfalso; cases acc <;> simp [meet1, hk] at h
        · rintro ⟨_, h⟩; have := h k (by simp); rw [hk] at this; cases this
      · rw [h2 l hl x]
        cases acc with
        | none => simp [meet1, hk]
        | some l0 => simp [meet1, hk, and_assoc]
      · refine h3 ?_ (fun k' hk' => hs k' (by simp [hk'])) l hl
        intro l0 hl0
        cases acc with
        | none => simp [meet1, hk] at hl0; exact hl0 ▸ hs k (by simp) r hk
        | some l1 => simp [meet1, hk] at hl0; exact hl0 ▸ srt_filter (ha l1 rfl) _

theorem meet_mem {out : Nat → Option (List Nat)} {ks : List Nat} {l : List Nat} (h : meet out ks = some l) (x : Nat) : x ∈ l ↔ ∀ k ∈ ks, ∀ r, out k = some r → x ∈ r := by
  have := (meet_acc out ks none).2.1 l h x
  simpa using this
theorem meet_some {out : Nat → Option (List Nat)} {ks : List Nat} {k : Nat} (hk : k ∈ ks) (h : out k ≠ none) : ∃ l, meet out ks = some l := by
  cases e : meet out ks with
  | some l => exact ⟨l, rfl⟩
  | none => exact absurd (((meet_acc out ks none).1.1 e).2 k hk) h
theorem meet_srt {out : Nat → Option (List Nat)} {ks : List Nat} (hs : ∀ k r, out k = some r → Srt r) {l : List Nat} (h : meet out ks = some l) : Srt l :=
  (meet_acc out ks none).2.2 (fun l0 h => by cases h) (fun k _ r => hs k r) l h

/-- What is met of the rows of the blocks that one comes from. -/
def metRow (out : Nat → Option (List Nat)) (pr : Nat → List Nat) (b : Nat) : List Nat := if b = 0 then [] else (meet out (pr b)).getD []
def newRow (out : Nat → Option (List Nat)) (pr : Nat → List Nat) (b : Nat) : List Nat := insAt (metRow out pr b) b
def setRow (out : Nat → Option (List Nat)) (b : Nat) (r : List Nat) : Nat → Option (List Nat) := fun x => if x = b then some r else out x

def posOf (O : List Nat) (x : Nat) : Nat := O.idxOf x

structure Above (succ : Nat → List Nat) (pr : Nat → List Nat) (O : List Nat) (out : Nat → Option (List Nat)) : Prop where
  srt : ∀ b r, out b = some r → Srt r
  self : ∀ b r, out b = some r → b ∈ r
  inO : ∀ b r, out b = some r → b ∈ O
  sound : ∀ b r, out b = some r → ∀ a, Dom succ a b → a ∈ r
  pos : ∀ b r, out b = some r → ∀ x ∈ r, x ∈ O ∧ posOf O x ≤ posOf O b
  ge : ∀ b r, out b = some r → b ≠ 0 → ∀ x, (∀ k ∈ pr b, ∀ rk, out k = some rk → x ∈ rk) → x ∈ r
  zero : ∀ r, out 0 = some r → r = [0]

section
variable {succ pr : Nat → List Nat} {O : List Nat} {n : Nat}

theorem Above.start : Above succ pr O (fun _ => none) :=
  ⟨fun _ _ h => (by cases h), fun _ _ h => (by cases h), fun _ _ h => (by cases h), fun _ _ h => (by cases h), fun _ _ h => (by cases h), fun _ _ h => (by cases h), fun _ h => (by cases h)⟩

/-- What is given of the graph and its order. -/
structure Ordered (succ pr : Nat → List Nat) (O : List Nat) (n : Nat) : Prop where
  lt : ∀ a x, x ∈ succ a → x < n
  n0 : 0 < n
  prs : ∀ b k, k ∈ pr b ↔ k < n ∧ b ∈ succ k
  mem : ∀ x, x ∈ O ↔ Rch succ All x
  nodup : O.Nodup
  first : ∃ O', O = 0 :: O'
  par : ∀ O1 x O2, O = O1 ++ x :: O2 → x = 0 ∨ ∃ p ∈ O1, x ∈ succ p

theorem Ordered.of (hs : ∀ a x, x ∈ succ a → x < n) (hn : 0 < n) (hp : ∀ b k, k ∈ pr b ↔ k < n ∧ b ∈ succ k) : Ordered succ pr (postOrd succ n).reverse n := by
  obtain ⟨h1, h2, ⟨L0, h3⟩, h4⟩ := post_spec hs hn
  refine ⟨hs, hn, hp, fun x => by rw [List.mem_reverse]; exact h2 x, List.pairwise_reverse.2 (h1.imp Ne.symm), ⟨L0.reverse, by rw [h3]; simp⟩, fun O1 x O2 e => ?_⟩
  have e' : postOrd succ n = O2.reverse ++ x :: O1.reverse := by
    have := congrArg List.reverse e
    simpa using this
  rcases h4 _ _ _ e' with h | ⟨p, hp, hx⟩
  · exact .inl h
  · exact .inr ⟨p, by simpa using hp, hx⟩

theorem Ordered.rlt (h : Ordered succ pr O n) {x : Nat} (hx : x ∈ O) : x < n := Rch.lt h.n0 h.lt ((h.mem x).1 hx)

theorem pos_split (hd : O.Nodup) {O1 O2 : List Nat} {x : Nat} (e : O = O1 ++ x :: O2) : posOf O x = O1.length := by
  subst e
  unfold posOf
  have hx : x ∉ O1 := by
    intro h
    have := (List.nodup_append.1 hd).2.2 x h x (by simp)
    exact this rfl
  rw [List.idxOf_append, if_neg hx]
  simp
theorem pos_lt {O1 O2 : List Nat} {x : Nat} (e : O = O1 ++ O2) (hx : x ∈ O1) : posOf O x < O1.length := by
  subst e
  unfold posOf
  rw [List.idxOf_append, if_pos hx]
  exact List.idxOf_lt_length_of_mem hx

/-- A block's turn: what the new row is. -/
theorem turn (hO : Ordered succ pr O n) {out : Nat → Option (List Nat)} (hA : Above succ pr O out) {O1 O2 : List Nat} {b : Nat} (e : O = O1 ++ b :: O2) (hset : ∀ x ∈ O1, out x ≠ none) :
    Srt (metRow out pr b) ∧ b ∉ metRow out pr b ∧ Srt (newRow out pr b) ∧
    (∀ x ∈ newRow out pr b, x ∈ O ∧ posOf O x ≤ posOf O b) ∧
    (∀ x, x ∈ newRow out pr b ↔ x = b ∨ (b ≠ 0 ∧ ∀ k ∈ pr b, ∀ rk, out k = some rk → x ∈ rk)) ∧
    (∀ a, Dom succ a b → a ∈ newRow out pr b) ∧ (∀ r, out b = some r → ∀ x ∈ newRow out pr b, x ∈ r) := by
  have hbO : b ∈ O := by rw [e]; simp
  have hpb := pos_split hO.nodup e
  have key : Srt (metRow out pr b) ∧ (∀ x ∈ metRow out pr b, x ∈ O ∧ posOf O x < posOf O b) ∧ (∀ x, x ∈ metRow out pr b ↔ (b ≠ 0 ∧ ∀ k ∈ pr b, ∀ rk, out k = some rk → x ∈ rk)) := by
    by_cases h0 : b = 0
    · have : metRow out pr b = [] := by unfold metRow; rw [if_pos h0]
      rw [this]
      exact ⟨List.Pairwise.nil, fun x h => (by cases h), fun x => ⟨fun h => (by cases h), fun h => absurd h0 h.1⟩⟩
    · rcases hO.par O1 b O2 e with h | ⟨p, hp, hx⟩
      · exact absurd h h0
      · have hpO : p ∈ O := by rw [e]; simp [hp]
        have hpp : p ∈ pr b := (hO.prs b p).2 ⟨hO.rlt hpO, hx⟩
        obtain ⟨l, hl⟩ := meet_some hpp (hset p hp)
        have em : metRow out pr b = l := by unfold metRow; rw [if_neg h0, hl]; rfl
        rw [em]
        refine ⟨meet_srt hA.srt hl, fun x hx2 => ?_, fun x => ?_⟩
        · cases hop : out p with
          | none => exact absurd hop (hset p hp)
          | some rp =>
            have h2 := hA.pos p rp hop x ((meet_mem hl x).1 hx2 p hpp rp hop)
            have h3 := pos_lt e hp
            exact ⟨h2.1, by omega⟩
        · rw [meet_mem hl x]
          exact ⟨fun h => ⟨h0, h⟩, fun h => h.2⟩
  obtain ⟨k1, k2, k3⟩ := key
  have hnb : b ∉ metRow out pr b := fun h => Nat.lt_irrefl _ (k2 b h).2
  have hmem : ∀ x, x ∈ newRow out pr b ↔ x = b ∨ (b ≠ 0 ∧ ∀ k ∈ pr b, ∀ rk, out k = some rk → x ∈ rk) := fun x => by
    unfold newRow; rw [insAt_mem, k3]
  refine ⟨k1, hnb, insAt_srt k1 hnb, fun x hx => ?_, hmem, fun a ha => ?_, fun r hr x hx => ?_⟩
  · rcases insAt_mem.1 hx with rfl | h
    · exact ⟨hbO, Nat.le_refl _⟩
    · have := k2 x h; exact ⟨this.1, by omega⟩
  · rw [hmem]
    by_cases hab : a = b
    · exact .inl hab
    · refine .inr ⟨fun e0 => hab ?_, fun k hk rk hrk => hA.sound k rk hrk a (ha.pred hab ((hO.mem k).1 (hA.inO k rk hrk)) ((hO.prs b k).1 hk).2)⟩
      subst e0
      exact ha.zero
  · rcases (hmem x).1 hx with rfl | ⟨h0, h⟩
    · exact hA.self _ r hr
    · exact hA.ge b r hr h0 x h

theorem Above.set (hO : Ordered succ pr O n) {out : Nat → Option (List Nat)} (hA : Above succ pr O out) {O1 O2 : List Nat} {b : Nat} (e : O = O1 ++ b :: O2) (hset : ∀ x ∈ O1, out x ≠ none) :
    Above succ pr O (setRow out b (newRow out pr b)) := by
  obtain ⟨_, _, t3, t4, t5, t6, t7⟩ := turn hO hA e hset
  have hbO : b ∈ O := by rw [e]; simp
  have cases2 : ∀ {P : Nat → List Nat → Prop}, P b (newRow out pr b) → (∀ c r, out c = some r → P c r) → ∀ c r, setRow out b (newRow out pr b) c = some r → P c r := by
    intro P h1 h2 c r h
    unfold setRow at h
    split at h
    · rename_i hc
      subst hc
      cases h
      exact h1
    · exact h2 c r h
  refine ⟨cases2 t3 hA.srt, cases2 ((t5 b).2 (.inl rfl)) hA.self, cases2 hbO hA.inO, cases2 t6 hA.sound, cases2 t4 hA.pos, ?_, ?_⟩
  · have old : ∀ c, (∀ x, (∀ k ∈ pr c, ∀ rk, setRow out b (newRow out pr b) k = some rk → x ∈ rk) → ∀ k ∈ pr c, ∀ rk, out k = some rk → x ∈ rk) := by
      intro c x h k hk rk hrk
      by_cases hkb : k = b
      · subst hkb
        exact t7 rk hrk x (h k hk _ (by simp [setRow]))
      · exact h k hk rk (by simp [setRow, hkb, hrk])
    refine cases2 (P := fun c r => c ≠ 0 → ∀ x, (∀ k ∈ pr c, ∀ rk, setRow out b (newRow out pr b) k = some rk → x ∈ rk) → x ∈ r) ?_ ?_
    · intro h0 x h
      exact (t5 x).2 (.inr ⟨h0, old b x h⟩)
    · intro c r hr h0 x h
      exact hA.ge c r hr h0 x (old c x h)
  · intro r hr
    unfold setRow at hr
    split at hr
    · rename_i h0
      cases hr
      rw [← h0]
      unfold newRow metRow
      rw [if_pos rfl]
      rfl
    · exact hA.zero r hr

/-- How much there is yet to take away. -/
def amount (out : Nat → Option (List Nat)) (n m : Nat) : Nat := match m with
  | 0 => 0
  | m + 1 => amount out n m + (match out m with | none => n + 1 | some r => r.length)
theorem amount_set_ge (out : Nat → Option (List Nat)) (n b : Nat) (r : List Nat) : ∀ m, m ≤ b → amount (setRow out b r) n m = amount out n m := by
  intro m
  induction m with
  | zero => intro _; rfl
  | succ m ih =>
    intro h
    unfold amount
    rw [ih (by omega)]
    have : setRow out b r m = out m := by unfold setRow; rw [if_neg (by omega)]
    rw [this]
theorem amount_set (out : Nat → Option (List Nat)) (n b : Nat) (r : List Nat) (h : r.length < (match out b with | none => n + 1 | some r => r.length)) : ∀ m, b < m → amount (setRow out b r) n m < amount out n m := by
  intro m
  induction m with
  | zero => intro h; omega
  | succ m ih =>
    intro hb
    by_cases e : b = m
    · subst e
      unfold amount
      rw [amount_set_ge out n b r b (Nat.le_refl _)]
      have : setRow out b r b = some r := by unfold setRow; rw [if_pos rfl]
      rw [this]
      simp only
      omega
    · have := ih (by omega)
      unfold amount
      have e2 : setRow out b r m = out m := by unfold setRow; rw [if_neg (by omega)]
      rw [e2]
      omega

theorem Above.less (hO : Ordered succ pr O n) {out : Nat → Option (List Nat)} (hA : Above succ pr O out) {O1 O2 : List Nat} {b : Nat} (e : O = O1 ++ b :: O2) (hset : ∀ x ∈ O1, out x ≠ none) (hne : out b ≠ some (newRow out pr b)) :
    amount (setRow out b (newRow out pr b)) n n < amount out n n := by
  obtain ⟨_, _, t3, t4, t5, t6, t7⟩ := turn hO hA e hset
  have hbO : b ∈ O := by rw [e]; simp
  refine amount_set out n b _ ?_ n (hO.rlt hbO)
  cases hb : out b with
  | none => exact Nat.lt_succ_of_le (srt_lt t3 fun x hx => hO.rlt (t4 x hx).1)
  | some r =>
    have := srt_len t3 (hA.srt b r hb) (t7 r hb)
    refine Nat.lt_of_le_of_ne this.1 fun h => hne ?_
    rw [hb, this.2 h]

/-- Where nothing turns any more, the rows have what is above each block, and nothing else. -/
theorem Above.fix (hO : Ordered succ pr O n) {out : Nat → Option (List Nat)} (hA : Above succ pr O out) (hf : ∀ b ∈ O, out b = some (newRow out pr b)) (b : Nat) (hb : b ∈ O) (x : Nat) :
    x ∈ newRow out pr b ↔ Dom succ x b := by
  have hset : ∀ y ∈ O, out y ≠ none := fun y hy h => by rw [hf y hy] at h; cases h
  refine ⟨fun hx => ⟨(hO.mem b).1 hb, fun hr => ?_⟩, fun h => hA.sound b _ (hf b hb) x h⟩
  have key : ∀ b, Rch succ (Not_ x) b → x ∉ newRow out pr b := fun b hr => by
    refine Rch.ind (P := fun b => x ∉ newRow out pr b) (fun h0 => ?_) (fun a b ha ih hab hbx => ?_) hr
    · intro h
      have h1 : (0 : Nat) ∈ O := (hO.mem 0).2 (Rch.zero trivial)
      rw [hA.zero _ (hf 0 h1)] at h
      exact h0 (List.mem_singleton.1 h).symm
    · intro h
      have hbO : b ∈ O := (hO.mem b).2 (ha.all.step hab trivial)
      have haO : a ∈ O := (hO.mem a).2 ha.all
      obtain ⟨O1, O2, e⟩ := List.append_of_mem hbO
      rcases ((turn hO hA e (fun y hy => hset y (by rw [e]; simp [hy]))).2.2.2.2.1 x).1 h with h | ⟨_, h⟩
      · exact hbx h.symm
      · exact ih (h a ((hO.prs b a).2 ⟨hO.rlt haO, hab⟩) _ (hf a haO))
  exact key b hr hx
end

end Go.Proofs.Ytjaapempahigaaa
