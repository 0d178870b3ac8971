/- Iron: opening arguments, with what their sizes are bounded by. -/
import Derived.Test.YtamhonbhoelohaaIronO
import Derived.Test.YtamhonbhoelohaaIronN
namespace Go.Iron

/-- As Opens; what is read is besides as G says, where its weights are in reach. -/
def OpensW (P : Program) (e : TypeId) {α : Type} (encA : α → List AV) (G : α → Prop) : Prop :=
  ∀ (H : Type) (enc : TypeId × Value → H) (w : World) (base : Nat) (spare : Nat → Bool) (held : Bool) (fuel : Nat) (cs : List Value) (x : DataW H × List MemPlace), DataW.trod enc P w base spare held fuel e cs = some x →
    (∀ n ∈ x.1.weights P e, n ≤ reachBytes) → ∃ a : α, (encA a).length = cs.length ∧ (∀ (j : Nat) y v, (encA a)[j]? = some y → cs[j]? = some v → RV w Non [] y v ∧ v.oneCell' = true) ∧ G a

section
variable {P : Program} {e t : TypeId}

theorem Opens.w {α : Type} {encA : α → List AV} (h : Opens P e encA) : OpensW P e encA (fun _ => True) := fun H enc w base spare held fuel cs x hx _ => by
  obtain ⟨a, h1, h2⟩ := h H enc w base spare held fuel cs x hx
  exact ⟨a, h1, h2, trivial⟩

theorem opensW_str (he : P.underlying e = some .string) : OpensW P e (fun s : List UInt8 => [.val (.string (bs s))]) (fun s => s.length ≤ reachBytes) := fun H enc w base spare held fuel cs x hx hw => by
  obtain ⟨s, rfl, hx1⟩ := DataW.trod_string he hx
  refine ⟨bl s, rfl, fun j y v hy hv => ?_, ?_⟩
  · cases j with
    | zero => simp at hy hv; subst hy; subst hv; exact ⟨.val, rfl⟩
    | succ j => simp at hy
  · rw [hx1.1] at hw
    exact hw _ (by simp [DataW.weights, bl])

theorem weightsAll_mem {H : Type} {l : List (DataW H)} {d : DataW H} (hd : d ∈ l) {n : Nat} (hn : n ∈ d.weights P e) : n ∈ DataW.weightsAll P e l := by
  induction l with
  | nil => simp at hd
  | cons x l ih =>
    simp only [DataW.weightsAll, List.mem_append]
    rcases List.mem_cons.1 hd with rfl | hd
    · exact .inl hn
    · exact .inr (ih hd)

theorem openW_slice {α : Type} {encA : α → List AV} {G : α → Prop} (d : α) {sz : Nat} (ht : P.underlying t = some (.slice e)) (hc : P.cellsOf e = sz) (hpos : 0 < sz) (he : OpensW P e encA G) {H : Type} {enc : TypeId × Value → H} {w : World} {base : Nat} {spare : Nat → Bool} {held : Bool} {fuel : Nat} {cs : List Value} {x : DataW H × List MemPlace}
    (hx : DataW.trod enc P w base spare held fuel t cs = some x) (hw : ∀ n ∈ x.1.weights P t, n ≤ reachBytes) :
    ∃ (l : List α) (nl : Bool) (v : Value), cs = [v] ∧ v.oneCell' = true ∧ RV w Non [] (.slc sz (some nl) l.length (fun i => encA (l.getD i d))) v ∧ l.length * P.bytesOf e ≤ reachBytes ∧ ∀ b ∈ l, G b := by
  subst hc
  rcases DataW.trod_slice ht hx with ⟨rfl, rfl⟩ | ⟨a, len, cap, elems, rest, n, _, rfl, rfl, hb, hl, hm, hlen, hel, hsp, hns⟩
  · exact ⟨[], true, _, rfl, rfl, .slc rfl (Nat.le_refl _) (Nat.zero_le _) (fun b h => by cases h; rfl) (fun i h => by simp at h) (fun h => by omega) (fun _ _ => undef) (fun i j x a h => by simp at h) (fun i j x h => by simp at h), by simp, by simp⟩
  · simp only [DataW.weights, ht, List.mem_cons, List.mem_append] at hw
    have hbytes := hw _ (.inl rfl)
    have key : ∀ i, i < len → ∃ (b : α) (cs' : List Value), w.cells? base (a.add (i * P.cellsOf e)) (P.cellsOf e) = some cs' ∧ (encA b).length = cs'.length ∧ (∀ (j : Nat) y v, (encA b)[j]? = some y → cs'[j]? = some v → RV w Non [] y v ∧ v.oneCell' = true) ∧ G b := by
      intro i hi
      have h1 := hel i hi
      have h2 : i < elems.length := by omega
      rw [List.getElem?_eq_getElem h2] at h1
      cases hcs : w.cells? base (a.add (i * P.cellsOf e)) (P.cellsOf e) with
      | none => simp [hcs] at h1
      | some cs' =>
        simp only [hcs, Option.bind_some] at h1
        obtain ⟨b, b1, b2, b3⟩ := he H enc w base spare held n cs' _ h1 fun m hm' => hw m (.inr (.inl (weightsAll_mem (List.mem_map.2 ⟨elems[i], List.getElem_mem h2, rfl⟩) hm')))
        exact ⟨b, cs', rfl, b1, b2, b3⟩
    have hlist : ∃ l : List α, l.length = len ∧ (∀ b ∈ l, G b) ∧ ∀ i, i < len → ∃ (cs' : List Value), w.cells? base (a.add (i * P.cellsOf e)) (P.cellsOf e) = some cs' ∧ (encA (l.getD i d)).length = cs'.length ∧ ∀ (j : Nat) y v, (encA (l.getD i d))[j]? = some y → cs'[j]? = some v → RV w Non [] y v ∧ v.oneCell' = true := by
      clear hel hlen hx hl hsp hns
      induction len with
      | zero => exact ⟨[], rfl, by simp, fun i h => by omega⟩
      | succ m ih =>
        obtain ⟨l, h1, h3, h2⟩ := ih (fun i hi => key i (by omega))
        obtain ⟨b, cs', b1, b2, b3, b4⟩ := key m (by omega)
        refine ⟨l ++ [b], by simp [h1], fun z hz => ?_, fun i hi => ?_⟩
        · rcases List.mem_append.1 hz with hz | hz
          · exact h3 z hz
          · rw [List.mem_singleton.1 hz]; exact b4
        · by_cases him : i < m
          · have : (l ++ [b]).getD i d = l.getD i d := by simp [List.getD_eq_getElem?_getD, List.getElem?_append_left (show i < l.length by omega)]
            rw [this]
            exact h2 i him
          · have him' : i = m := by omega
            subst him'
            have : (l ++ [b]).getD i d = b := by simp [List.getD_eq_getElem?_getD, List.getElem?_append_right (show l.length ≤ i by omega), h1]
            rw [this]
            exact ⟨cs', b1, b2, b3⟩
    obtain ⟨l, hll, hG, hk⟩ := hlist
    subst hll
    refine ⟨l, false, _, rfl, rfl, ?_, ?_, hG⟩
    · have hcell : ∀ i cs', w.cells? base (a.add (i * P.cellsOf e)) (P.cellsOf e) = some cs' → cs'.length = P.cellsOf e ∧ ∀ j, j < P.cellsOf e → w.cell? ((a.add (i * P.cellsOf e)).add j) = cs'[j]? := fun i cs' h => by
        obtain ⟨_, h2, h3⟩ := World.cells?_some h
        exact ⟨h2, h3⟩
      refine .slc rfl hl hm (fun b h => by cases h; rfl) (fun i hi => ?_) (fun h0 => ⟨a, rfl, ?_, fun h => h⟩) (fun i j => ((w.cell? (a.add (i * P.cellsOf e + j))).getD undef)) (fun i j y a' hi hy ha => ?_) (fun i j y hi hy => ?_)
      · obtain ⟨cs', c1, c2, c3⟩ := hk i hi
        rw [c2, (hcell i cs' c1).1]
      · obtain ⟨cs', c1, c2, c3⟩ := hk 0 h0
        have := World.cells?_block c1 hpos
        rwa [add_block] at this
      all_goals
        obtain ⟨cs', c1, c2, c3⟩ := hk i hi
        obtain ⟨d1, d2⟩ := hcell i cs' c1
        have hj : j < P.cellsOf e := by rw [← d1, ← c2]; exact (List.getElem?_eq_some_iff.1 hy).1
        have hj' : j < cs'.length := by omega
        have hv := d2 j hj
        rw [List.getElem?_eq_getElem hj'] at hv
        obtain ⟨r1, r2⟩ := c3 j y _ hy (List.getElem?_eq_getElem hj')
        have hadd : (a.add (i * P.cellsOf e)).add j = a.add (i * P.cellsOf e + j) := addr_add _ _ _
        rw [hadd] at hv
      · cases ha
        rw [hv]
        exact ⟨rfl, r2⟩
      · rw [hv]
        exact r1
    · refine Nat.le_trans ?_ hbytes
      simp only [List.length_map]
      rw [hlen]
      exact Nat.mul_le_mul_right _ (Nat.le_add_right _ _)

theorem opensW_slice {α : Type} {encA : α → List AV} {G : α → Prop} (d : α) {sz bytes : Nat} (ht : P.underlying t = some (.slice e)) (hc : P.cellsOf e = sz) (hpos : 0 < sz) (hby : P.bytesOf e = bytes) (he : OpensW P e encA G) :
    OpensW P t (fun l : List α => [.slc sz none l.length (fun i => encA (l.getD i d))]) (fun l => l.length * bytes ≤ reachBytes ∧ ∀ b ∈ l, G b) := fun H enc w base spare held fuel cs x hx hw => by
  obtain ⟨l, nl, v, rfl, h2, h3, h4, h5⟩ := openW_slice d ht hc hpos he hx hw
  refine ⟨l, rfl, fun j y u hy hu => ?_, by rw [← hby]; exact h4, h5⟩
  cases j with
  | zero => simp at hy hu; subst hy; subst hu; exact ⟨slc_less h3, h2⟩
  | succ j => simp at hy

/-- A slice that came in as an argument. -/
theorem argW_slice {α : Type} {encA : α → List AV} {G : α → Prop} (d : α) {sz bytes : Nat} (ht : P.underlying t = some (.slice e)) (hc : P.cellsOf e = sz) (hpos : 0 < sz) (he : OpensW P e encA G) (hby : P.bytesOf e = bytes) {H : Type} {enc : TypeId × Value → H} {W : World} {b : Nat} {sp : Nat → Bool} {held : Bool} {v : Value} {dd : DataW H} {ps : List MemPlace}
    {ts : List TypeId} {ds : List (DataW H)} (hsz : (DataW.weightsEach P ts ds).all (· ≤ reachBytes) = true) {j : Nat} (hts : ts[j]? = some t) (hds : ds[j]? = some dd) (hv : ∃ a len cap, v = .slice a len cap) (h : DataW.Trod enc P W b sp held t v dd ps) :
    ∃ (l : List α) (nl : Bool), RV W Non [] (.slc sz (some nl) l.length (fun i => encA (l.getD i d))) v ∧ l.length * bytes ≤ reachBytes ∧ ∀ b ∈ l, G b := by
  obtain ⟨a, len, cap, rfl⟩ := hv
  obtain ⟨fuel, hf⟩ := h
  have hw : ∀ n ∈ dd.weights P t, n ≤ reachBytes := fun n hn => by
    have := List.all_eq_true.1 hsz _ (DataW.weights_mem_each hts hds n hn)
    simpa using this
  obtain ⟨l, nl, v', h1, h2, h3, h4, h5⟩ := openW_slice d ht hc hpos he hf hw
  simp [Value.cells] at h1
  subst h1
  exact ⟨l, nl, h3, by rw [← hby]; exact h4, h5⟩
end
end Go.Iron
