/- Slices that are being built; what is handed over; joins, loops and ends. -/
import Derived.Test.YtefaoeaohhdhkaaD20
set_option linter.unusedVariables false
set_option linter.unusedSimpArgs false
namespace Go.Dn
open Go

section
variable {σ : Heap} {lo hi : Nat} {L : List Res} {k : Nat} {r : Res}

theorem Has.sl (H : Has σ lo hi L) {v : PV} {e : TypeId} {sz : Nat} {xs : List (List FV)} {live : Bool} (hk : L[k]? = some (.sl v e sz xs live)) :
    (∀ y ∈ xs, y.length = sz) ∧ ((v = .nils ∧ xs = []) ∨ ∃ id, v = .buf id xs.length sz ∧ σ.ent id = .blk e (vs xs.flatten) live) := H.holds k _ hk

/-- One of the things gives way to one whose place is new. -/
theorem Has.renew (H : Has σ lo hi L) {b : Nat} {en : Ent} {r' : Res} (hk : L[k]? = some r) (hlo : lo ≤ b) (hhi : b < hi) (hr : r'.holds (σ.put b en)) (ho : r'.owner = some b) : Has (σ.put b en) (b + 1) hi (L.set k r') := by
  have hle := H.le
  have hne : ∀ (j : Nat) (s : Res), L[j]? = some s → s.owner ≠ some b := fun j s h e => by
    have := (H.lt j s h b e).1; omega
  have key : ∀ (j : Nat) (s : Res), (L.set k r')[j]? = some s → (j = k ∧ s = r') ∨ (j ≠ k ∧ L[j]? = some s) := by
    intro j s h
    rw [List.getElem?_set] at h
    by_cases hj : k = j
    · subst hj
      rw [if_pos rfl] at h
      split at h
      · cases h; exact .inl ⟨rfl, rfl⟩
      · cases h
    · rw [if_neg hj] at h
      exact .inr ⟨fun e => hj e.symm, h⟩
  refine ⟨fun j s h => ?_, fun j s h id' ho2 => ?_, fun i j s t hij h1 h2 id' hs => ?_, hle⟩
  · rcases key j s h with ⟨_, rfl⟩ | ⟨hj, h⟩
    · exact hr
    · exact holds_put_ne (H.holds j s h) (hne j s h)
  · rcases key j s h with ⟨_, rfl⟩ | ⟨hj, h⟩
    · rw [ho] at ho2; cases ho2; exact ⟨.inl (by omega), show _ < σ.nx by omega⟩
    · have := H.lt j s h id' ho2; exact ⟨by omega, this.2⟩
  · rcases key i s h1 with ⟨hi', rfl⟩ | ⟨hi', h1'⟩
    · rw [ho] at hs; cases hs
      rcases key j t h2 with ⟨hj, rfl⟩ | ⟨hj, h2'⟩
      · omega
      · exact hne j t h2'
    · rcases key j t h2 with ⟨hj, rfl⟩ | ⟨hj, h2'⟩
      · intro e
        rw [ho] at e; cases e
        exact hne i s h1' hs
      · exact H.sep i j s t hij h1' h2' id' hs

/-- One of the things is said otherwise, the heap as it is. -/
theorem Has.say (H : Has σ lo hi L) {r' : Res} (hk : L[k]? = some r) (hr : r'.holds σ) (ho : r'.owner = r.owner) : Has σ lo hi (L.set k r') := by
  have key : ∀ (j : Nat) (s : Res), (L.set k r')[j]? = some s → (j = k ∧ s = r') ∨ (j ≠ k ∧ L[j]? = some s) := by
    intro j s h
    rw [List.getElem?_set] at h
    by_cases hj : k = j
    · subst hj
      rw [if_pos rfl] at h
      split at h
      · cases h; exact .inl ⟨rfl, rfl⟩
      · cases h
    · rw [if_neg hj] at h
      exact .inr ⟨fun e => hj e.symm, h⟩
  refine ⟨fun j s h => ?_, fun j s h id' ho2 => ?_, fun i j s t hij h1 h2 id' hs => ?_, H.le⟩
  · rcases key j s h with ⟨_, rfl⟩ | ⟨hj, h⟩
    · exact hr
    · exact H.holds j s h
  · rcases key j s h with ⟨_, rfl⟩ | ⟨hj, h⟩
    · rw [ho] at ho2; exact H.lt k r hk id' ho2
    · exact H.lt j s h id' ho2
  · rcases key i s h1 with ⟨hi', rfl⟩ | ⟨hi', h1'⟩
    · rw [ho] at hs
      rcases key j t h2 with ⟨hj, rfl⟩ | ⟨hj, h2'⟩
      · omega
      · exact H.sep k j r t (fun e => hj e.symm) hk h2' id' hs
    · rcases key j t h2 with ⟨hj, rfl⟩ | ⟨hj, h2'⟩
      · rw [ho]; exact H.sep i k s r hi' h1' hk id' hs
      · exact H.sep i j s t hij h1' h2' id' hs

theorem Has.same {σ' : Heap} (H : Has σ lo hi L) (he : ∀ id, id < σ.nx → σ'.ent id = σ.ent id) (hn : σ.nx ≤ σ'.nx) : Has σ' lo hi L := by
  refine ⟨fun j s h => ?_, fun j s h id ho => ⟨(H.lt j s h id ho).1, Nat.lt_of_lt_of_le (H.lt j s h id ho).2 hn⟩, H.sep, Nat.le_trans H.le hn⟩
  have h1 := H.holds j s h
  have h2 := H.lt j s h
  cases s with
  | blk id t cells => exact (he id (h2 id rfl).2).trans h1
  | sl v e sz xs live =>
    refine ⟨h1.1, h1.2.imp (fun h => h) fun ⟨id, hv, hb⟩ => ⟨id, hv, ?_⟩⟩
    exact (he id (h2 id (by rw [hv]; rfl)).2).trans hb
  | floor m => exact Nat.le_trans h1 hn
  | loop id fn e n ps as_ bo st pd => exact (he id (h2 id rfl).2).trans h1

/-- A thing that has no place. -/
theorem Has.floor (H : Has σ lo hi L) (m : Nat) (hm : m ≤ σ.nx) : Has σ lo hi (.floor m :: L) := by
  refine ⟨fun j s h => ?_, fun j s h id' ho2 => ?_, fun i j s t hij h1 h2 id' hs => ?_, H.le⟩
  · cases j with
    | zero => cases h; exact hm
    | succ j => exact H.holds j s h
  · cases j with
    | zero => cases h; cases ho2
    | succ j => exact H.lt j s h id' ho2
  · cases i with
    | zero => cases h1; cases hs
    | succ i =>
      cases j with
      | zero => cases h2; intro e; cases e
      | succ j => exact H.sep i j s t (fun e => hij (by rw [e])) h1 h2 id' hs
end

/-- Some of the things, in another order. -/
def pick (L : List Res) (ks : List Nat) : List Res := ks.filterMap (L[·]?)
theorem Has.pick {σ : Heap} {lo hi : Nat} {L : List Res} (H : Has σ lo hi L) : ∀ (ks : List Nat), ks.Nodup → Has σ lo hi (Dn.pick L ks)
  | [], _ => Has.nil H.le
  | k :: ks, hn => by
    have hn := List.nodup_cons.1 hn
    have ih := Has.pick H ks hn.2
    cases hr : L[k]? with
    | none => simpa [Dn.pick, hr] using ih
    | some r =>
      have e : Dn.pick L (k :: ks) = r :: Dn.pick L ks := by simp [Dn.pick, hr]
      rw [e]
      have mem : ∀ (j : Nat) (s : Res), (Dn.pick L ks)[j]? = some s → ∃ k', k' ∈ ks ∧ L[k']? = some s := fun j s h => by
        have := List.mem_of_getElem? h
        unfold Dn.pick at this
        exact List.mem_filterMap.1 this
      refine ⟨fun j s h => ?_, fun j s h => ?_, fun i j s t hij h1 h2 => ?_, H.le⟩
      · cases j with
        | zero => cases h; exact H.holds k r hr
        | succ j => exact ih.holds j s h
      · cases j with
        | zero => cases h; exact H.lt k r hr
        | succ j => exact ih.lt j s h
      · cases i with
        | zero =>
          cases h1
          cases j with
          | zero => exact absurd rfl hij
          | succ j =>
            obtain ⟨k', hk', h2'⟩ := mem j t h2
            exact H.sep k k' r t (fun e => hn.1 (e ▸ hk')) hr h2'
        | succ i =>
          cases j with
          | zero =>
            cases h2
            obtain ⟨k', hk', h1'⟩ := mem i s h1
            exact H.sep k' k s r (fun e => hn.1 (e ▸ hk')) h1' hr
          | succ j => exact ih.sep i j s t (fun e => hij (by rw [e])) h1 h2

/-! ### Lists of elements of one size -/
theorem vs_append (xs ys : List FV) : vs (xs ++ ys) = vs xs ++ vs ys := List.map_append ..
theorem vs_length (xs : List FV) : (vs xs).length = xs.length := List.length_map ..
theorem vs_get (xs : List FV) (j : Nat) : (vs xs)[j]? = (xs[j]?).map .v := List.getElem?_map ..
theorem vs_take (xs : List FV) (j : Nat) : (vs xs).take j = vs (xs.take j) := (List.map_take ..).symm
theorem vs_drop (xs : List FV) (j : Nat) : (vs xs).drop j = vs (xs.drop j) := (List.map_drop ..).symm

theorem flat_length {sz : Nat} : ∀ {xs : List (List FV)}, (∀ y ∈ xs, y.length = sz) → xs.flatten.length = xs.length * sz
  | [], _ => by simp
  | x :: xs, h => by
    have := flat_length (xs := xs) fun y hy => h y (List.mem_cons_of_mem _ hy)
    simp only [List.flatten_cons, List.length_append, this, h x List.mem_cons_self, List.length_cons, Nat.succ_mul]
    omega

theorem flat_drop {sz : Nat} : ∀ {xs : List (List FV)}, (∀ y ∈ xs, y.length = sz) → ∀ {i : Nat} {y : List FV}, xs[i]? = some y → xs.flatten.drop (i * sz) = y ++ (xs.drop (i + 1)).flatten
  | [], _, i, y, h => by simp at h
  | x :: xs, hs, 0, y, h => by
    simp at h; subst h; simp
  | x :: xs, hs, i + 1, y, h => by
    have hx := hs x List.mem_cons_self
    have := flat_drop (xs := xs) (fun y hy => hs y (List.mem_cons_of_mem _ hy)) (i := i) (y := y) (by simpa using h)
    rw [List.flatten_cons, Nat.succ_mul, Nat.add_comm (i * sz) sz, ← hx, ← List.drop_drop, List.drop_left, hx, this]
    simp

theorem flat_part {sz : Nat} {xs : List (List FV)} (hs : ∀ y ∈ xs, y.length = sz) {i : Nat} {y : List FV} (h : xs[i]? = some y) : (xs.flatten.drop (i * sz)).take sz = y := by
  rw [flat_drop hs h, List.take_append_of_le_length (by rw [hs y (List.mem_of_getElem? h)]; exact Nat.le_refl _), List.take_of_length_le (by rw [hs y (List.mem_of_getElem? h)]; exact Nat.le_refl _)]

theorem flat_get {sz : Nat} {xs : List (List FV)} (hs : ∀ y ∈ xs, y.length = sz) {i j : Nat} {y : List FV} (h : xs[i]? = some y) (hj : j < sz) : xs.flatten[i * sz + j]? = y[j]? := by
  rw [← List.getElem?_drop, flat_drop hs h, List.getElem?_append_left (by rw [hs y (List.mem_of_getElem? h)]; exact hj)]

theorem flat_le {sz : Nat} {xs : List (List FV)} (hs : ∀ y ∈ xs, y.length = sz) {i : Nat} {y : List FV} (h : xs[i]? = some y) : i * sz + sz ≤ xs.flatten.length := by
  have hi : i < xs.length := by
    rcases Nat.lt_or_ge i xs.length with h1 | h1
    · exact h1
    · rw [List.getElem?_eq_none h1] at h; cases h
  rw [flat_length hs, ← Nat.succ_mul]
  exact Nat.mul_le_mul_right _ hi

theorem flat_splice {sz : Nat} : ∀ {xs : List (List FV)}, (∀ y ∈ xs, y.length = sz) → ∀ {i : Nat} {y : List FV}, xs[i]? = some y → ∀ {off : Nat} {zs : List FV}, off + zs.length ≤ sz →
    splice (vs xs.flatten) (i * sz + off) (vs zs) = vs (xs.set i (y.take off ++ zs ++ y.drop (off + zs.length))).flatten := by
  intro xs hs i y h off zs hle
  have hy := hs y (List.mem_of_getElem? h)
  have hi : i < xs.length := by
    rcases Nat.lt_or_ge i xs.length with h1 | h1
    · exact h1
    · rw [List.getElem?_eq_none h1] at h; cases h
  have e1 : xs.flatten = (xs.take i).flatten ++ (y ++ (xs.drop (i + 1)).flatten) := by
    conv => lhs; rw [← List.take_append_drop i xs]
    rw [List.flatten_append, List.drop_eq_getElem_cons hi, List.flatten_cons]
    rw [List.getElem?_eq_getElem hi] at h
    cases h; rfl
  have e2 : xs.set i (y.take off ++ zs ++ y.drop (off + zs.length)) = xs.take i ++ (y.take off ++ zs ++ y.drop (off + zs.length)) :: xs.drop (i + 1) := by
    rw [List.set_eq_take_append_cons_drop, if_pos hi]
  have hl : (xs.take i).flatten.length = i * sz := by
    rw [flat_length (sz := sz) fun y hy => hs y (List.mem_of_mem_take hy), List.length_take, Nat.min_eq_left (by omega)]
  rw [e2]
  unfold splice
  rw [vs_take, vs_drop, ← vs_append, ← vs_append, vs_length]
  congr 1
  rw [e1, List.flatten_append, List.flatten_cons]
  have t1 : List.take (i * sz + off) ((xs.take i).flatten ++ (y ++ (xs.drop (i + 1)).flatten)) = (xs.take i).flatten ++ y.take off := by
    rw [List.take_append, hl, List.take_of_length_le (by omega), List.take_append_of_le_length (by omega)]
    congr 2; omega
  have t2 : List.drop (i * sz + off + zs.length) ((xs.take i).flatten ++ (y ++ (xs.drop (i + 1)).flatten)) = y.drop (off + zs.length) ++ (xs.drop (i + 1)).flatten := by
    rw [List.drop_append, hl, List.drop_eq_nil_of_le (by omega), List.nil_append, List.drop_append_of_le_length (by omega)]
    congr 2; omega
  rw [t1, t2]
  simp only [List.append_assoc]

theorem at?_map {α β : Type} {f : α → β} {l : List α} {i : Int} {a : α} (h : at? l i = some a) : at? (l.map f) i = some (f a) := by
  obtain ⟨h0, h1⟩ := at?_some h
  rw [at?, if_pos h0, List.getElem?_map, h1]; rfl

/-- An element's place, written. -/
def set? {α : Type} (l : List α) (i : Int) (a : α) : Option (List α) := if 0 ≤ i ∧ i.toNat < l.length then some (l.set i.toNat a) else none
def app? {α : Type} (by_ : Nat) (l m : List α) : Option (List α) := if (l.length + m.length) * by_ ≤ room then some (l ++ m) else none
def new? {α : Type} (by_ : Nat) (n : Int) (z : α) : Option (List α) := if 0 ≤ n ∧ n.toNat * by_ ≤ room then some (List.replicate n.toNat z) else none
def cut? {α : Type} (l : List α) (i j : Int) : Option (List α) := if 0 ≤ i ∧ i ≤ j ∧ j ≤ l.length then some ((l.take j.toNat).drop i.toNat) else none

section
variable {X : Ctx} {n : Nat} {dr : Bool} {fn : FuncId} {ops : Array Oper} {base i : Nat} {l : List Oper} {e : Env} {σ : Heap} {K : Env → Heap → Prop} {Q : Ex → Env → Heap → Prop} {c a b : Code}
variable {d : Nat} {t t1 t2 : TypeId} {p : String} {af : Array Edge} {x y z : Operand} {v : PV} {lo hi : Nat} {L : List Res}

/-! ### Slices that are being built -/
theorem Ops.buildS {parts : Array (Nat × Operand)} {len sz : Nat} {el : TypeId} {zs : List PV} {pp : List (Nat × PV)} (xs : List (List FV)) (H : Has σ lo hi L) (hlo : lo ≤ base + i) (hhi : base + i < hi)
    (ht : tslice X.P t1 = some el) (hp : partsD X e parts.toList = some pp) (hs : tsize X.P el = some sz) (hz : tzero X.P el = some zs) (hc : (zs.length == sz && sz != 0 && Nat.ble (len * sz) 1000000) = true)
    (hf : fillD (fun i => some (i * sz, sz)) (List.replicate len zs).flatten pp = some (vs xs.flatten)) (hl : xs.length = len) (hx : xs.all (fun y => y.length == sz) = true) (hd : Nat.blt d n = true)
    (hk : ∀ σ', Has σ' (base + i + 1) hi (.sl (.buf (base + i) len sz) el sz xs true :: L) → Ops X n dr ops base (i + 1) l (set e d (.buf (base + i) len sz)) σ' K) (hlit : (X.lit && len != 0) = false := by first | rfl | exact Bool.and_false _) :
    Ops X n dr ops base i (⟨some d, .buildSlice t1 len parts, t, p, af, none⟩ :: l) e σ K := by
  simp only [Bool.and_eq_true, beq_iff_eq, bne_iff_ne, ne_eq, Nat.ble_eq] at hc
  refine .plain (x := .buf (base + i) len sz) (σ1 := σ.put (base + i) (.blk el (vs xs.flatten) true)) ?_ (fun _ => ask_inert rfl) hd (hk _ (H.push hlo hhi (r' := .sl (.buf (base + i) len sz) el sz xs true) ?_ rfl))
  · simp only [stepOp, buildSliceD, ht, hp, hs, hz]
    rw [if_pos ⟨hc.1.1, hc.1.2, hc.2⟩, hf]; simp only [litR, hlit]; rfl
  · exact ⟨fun y hy => by have := List.all_eq_true.1 hx y hy; simpa using this, .inr ⟨base + i, by rw [hl], put_ent⟩⟩

theorem Ops.makeS {el : TypeId} {sz by_ : Nat} {m : Int} {zs : List FV} {α : Type} {cc : α → List FV} {za : α} {r : List α} (H : Has σ lo hi L) (hlo : lo ≤ base + i) (hhi : base + i < hi)
    (hx : operandD X e x = some (.v (.int .i64 m))) (hy : operandD X e y = some (.v (.int .i64 m))) (hr : new? by_ m za = some r)
    (ht : tslice X.P t1 = some el) (hs : tsize X.P el = some sz) (hb : tbytes X.P el = some by_) (hz : tzero X.P el = some (vs zs)) (hza : cc za = zs) (hc : (zs.length == sz && sz != 0 && by_ != 0) = true) (hd : Nat.blt d n = true)
    (hk : ∀ σ', Has σ' (base + i + 1) hi (.sl (.buf (base + i) m.toNat sz) el sz (r.map cc) true :: L) → Ops X n dr ops base (i + 1) l (set e d (.buf (base + i) m.toNat sz)) σ' K) :
    Ops X n dr ops base i (⟨some d, .makeSlice t1 x y, t, p, af, none⟩ :: l) e σ K := by
  simp only [Bool.and_eq_true, beq_iff_eq, bne_iff_ne, ne_eq] at hc
  unfold new? at hr
  split at hr
  · rename_i hm
    cases hr
    have e1 : (List.map cc (List.replicate m.toNat za)) = List.replicate m.toNat zs := by rw [List.map_replicate, hza]
    have e2 : (List.replicate m.toNat (vs zs)).flatten = vs (List.replicate m.toNat zs).flatten := by
      unfold vs
      rw [List.map_flatten, List.map_replicate]
    refine .plain (x := .buf (base + i) m.toNat sz) (σ1 := σ.put (base + i) (.blk el (vs (List.replicate m.toNat zs).flatten) true)) ?_ (fun _ => ask_inert rfl) hd (hk _ (H.push hlo hhi (r' := .sl (.buf (base + i) m.toNat sz) el sz _ true) ?_ rfl))
    · simp only [stepOp, hx, hy, makeD, ht, hs, hb, hz, vs_length]
      rw [if_pos ⟨trivial, hm.1, hm.2, hc.1.1, hc.1.2, hc.2⟩, e2]
    · rw [e1]
      exact ⟨fun y hy => by rw [List.eq_of_mem_replicate hy]; exact hc.1.1, .inr ⟨base + i, by simp, put_ent⟩⟩
  · cases hr

theorem Ops.lenS {el et : TypeId} {sz : Nat} {xs : List (List FV)} {lv : Bool} (H : Has σ lo hi L) (k : Nat) (hk : L[k]? = some (.sl v et sz xs lv)) (hx : operandD X e x = some v) (ht : tslice X.P t1 = some el)
    (ha : dr = true → ∀ id, v.owner = some id → Seen ops base i id false) (hd : Nat.blt d n = true)
    (hk' : Ops X n dr ops base (i + 1) l (set e d (.v (.int .i64 xs.length))) σ K) : Ops X n dr ops base i (⟨some d, .call { callee := .builtin .len, args := #[x], argTypes := #[t1] }, t, p, af, none⟩ :: l) e σ K := by
  obtain ⟨hs, hv⟩ := H.sl hk
  refine .plain (x := .v (.int .i64 xs.length)) (σ1 := σ) ?_ (fun h => ask_seen_r rfl rfl ?_) hd hk'
  · simp only [stepOp, callOpD, operandsD, hx, Option.bind_some, builtinD, lenD, ht]
    rcases hv with ⟨rfl, rfl⟩ | ⟨id, rfl, hb⟩
    · rfl
    · have : σ.cur id (xs.length * sz) = true := by simp only [Heap.cur, hb, vs_length, flat_length hs, beq_self_eq_true]
      simp only [this, if_true, Option.map_some]
  · intro id hid
    simp only [touched, opLooks, List.flatMap_cons, List.flatMap_nil, hx, List.append_nil] at hid
    rcases hv with ⟨rfl, rfl⟩ | ⟨id', rfl, hb⟩
    · simp [vids] at hid
    · simp [vids] at hid; subst hid; exact ha h _ rfl

theorem Ops.indexS {el et : TypeId} {sz : Nat} {xs : List (List FV)} {u : List FV} {iv : Int} {ik : IntKind} {lv : Bool} (H : Has σ lo hi L) (k : Nat) (hk : L[k]? = some (.sl v et sz xs lv)) (hx : operandD X e x = some v)
    (hy : operandD X e y = some (.v (.int ik iv))) (hu : at? xs iv = some u) (ht : tslice X.P t1 = some el) (hs : tsize X.P el = some sz)
    (ha : dr = true → ∀ id, v.owner = some id → Seen ops base i id false) (hd : Nat.blt d n = true)
    (hk' : ∀ id, v = .buf id xs.length sz → Ops X n dr ops base (i + 1) l (set e d (.ptr id (xs.length * sz) (iv.toNat * sz))) σ K) : Ops X n dr ops base i (⟨some d, .indexAddr t1 x y, t, p, af, none⟩ :: l) e σ K := by
  obtain ⟨hsz, hv⟩ := H.sl hk
  obtain ⟨h0, hu⟩ := at?_some hu
  have hlt : iv.toNat < xs.length := by
    rcases Nat.lt_or_ge iv.toNat xs.length with h1 | h1
    · exact h1
    · rw [List.getElem?_eq_none h1] at hu; cases hu
  rcases hv with ⟨rfl, rfl⟩ | ⟨id, rfl, hb⟩
  · simp at hu
  · have hcur : σ.cur id (xs.length * sz) = true := by simp only [Heap.cur, hb, vs_length, flat_length hsz, beq_self_eq_true]
    refine .plain (x := .ptr id (xs.length * sz) (iv.toNat * sz)) (σ1 := σ) ?_ (fun h => ask_seen_r rfl rfl ?_) hd (hk' id rfl)
    · simp only [stepOp, hx, hy, indexAddrD, asNat, if_pos h0, ht, hcur, hs, Bool.true_and, beq_self_eq_true, decide_eq_true hlt, if_true, Option.map_some]
    · intro id' hid
      simp only [touched, opLooks, List.flatMap_cons, List.flatMap_nil, hx, List.append_nil] at hid
      simp [vids] at hid; subst hid; exact ha h _ rfl

theorem Ops.fieldAddrS {id : Nat} {et ft : TypeId} {sz f fo m off ver : Nat} {xs : List (List FV)} {lv : Bool} (H : Has σ lo hi L) (k : Nat) (hk : L[k]? = some (.sl v et sz xs lv)) (hv : v = .buf id xs.length sz) (hver : ver = xs.length * sz)
    (hx : operandD X e x = some (.ptr id ver off)) (hf : tfield X.P t1 f = some (fo, ft)) (hs : tsize X.P ft = some (m + 1)) (ha : dr = true → Seen ops base i id false) (hd : Nat.blt d n = true)
    (hk' : Ops X n dr ops base (i + 1) l (set e d (.ptr id ver (off + fo))) σ K) : Ops X n dr ops base i (⟨some d, .fieldAddr t1 x f, t, p, af, none⟩ :: l) e σ K := by
  subst hver
  obtain ⟨hsz, hv'⟩ := H.sl hk
  rcases hv' with ⟨rfl, rfl⟩ | ⟨id', rfl, hb⟩
  · cases hv
  · cases hv
    have hcur : σ.cur id (xs.length * sz) = true := by simp only [Heap.cur, hb, vs_length, flat_length hsz, beq_self_eq_true]
    refine .plain (x := .ptr id (xs.length * sz) (off + fo)) (σ1 := σ) ?_ (fun h => ask_seen_r (ids := [id]) rfl ?_ (fun j hj => by simp at hj; subst hj; exact ha h)) hd hk'
    · simp only [stepOp, hx, Option.bind_some, fieldAddrD, hf, hs, hcur, if_true, Option.map_some]
    · simp only [touched, opLooks, List.flatMap_cons, List.flatMap_nil, hx, vids, List.append_nil]

theorem Ops.loadS {id : Nat} {et : TypeId} {sz j off ver : Nat} {xs : List (List FV)} {u : List FV} {w : FV} {iv : Int} {lv : Bool} (H : Has σ lo hi L) (k : Nat) (hk : L[k]? = some (.sl v et sz xs lv)) (hv : v = .buf id xs.length sz) (hver : ver = xs.length * sz)
    (hu : at? xs iv = some u) (hx : operandD X e x = some (.ptr id ver off)) (hoff : off = iv.toNat * sz + j) (hg : tagg X.P t1 = some false) (hj : Nat.blt j sz = true) (hw : u[j]? = some w) (ha : dr = true → Seen ops base i id false) (hd : Nat.blt d n = true)
    (hk' : Ops X n dr ops base (i + 1) l (set e d (.v w)) σ K) : Ops X n dr ops base i (⟨some d, .load t1 x, t, p, af, none⟩ :: l) e σ K := by
  subst hver; subst hoff
  obtain ⟨hsz, hv'⟩ := H.sl hk
  obtain ⟨h0, hu⟩ := at?_some hu
  rcases hv' with ⟨rfl, rfl⟩ | ⟨id', rfl, hb⟩
  · cases hv
  · cases hv
    refine .plain (x := .v w) (σ1 := σ) ?_ (fun h => ask_seen_r (ids := [id]) rfl ?_ (fun j hj => by simp at hj; subst hj; exact ha h)) hd hk'
    · simp only [stepOp, hx, Option.bind_some, loadD, hb, vs_length, flat_length hsz, if_true, hg, vs_get, flat_get hsz hu (blt_lt hj), hw, Option.map_some]
    · simp only [touched, opLooks, List.flatMap_cons, List.flatMap_nil, hx, vids, List.append_nil]

theorem Ops.loadSA {id : Nat} {et : TypeId} {sz off ver : Nat} {xs : List (List FV)} {u : List FV} {iv : Int} {lv : Bool} (H : Has σ lo hi L) (k : Nat) (hk : L[k]? = some (.sl v et sz xs lv)) (hv : v = .buf id xs.length sz) (hver : ver = xs.length * sz)
    (hu : at? xs iv = some u) (hx : operandD X e x = some (.ptr id ver off)) (hoff : off = iv.toNat * sz) (hg : tagg X.P t1 = some true) (hj : tsize X.P t1 = some sz) (ha : dr = true → Seen ops base i id false) (hd : Nat.blt d n = true)
    (hk' : Ops X n dr ops base (i + 1) l (set e d (.agg (vs u))) σ K) : Ops X n dr ops base i (⟨some d, .load t1 x, t, p, af, none⟩ :: l) e σ K := by
  subst hver; subst hoff
  obtain ⟨hsz, hv'⟩ := H.sl hk
  obtain ⟨h0, hu⟩ := at?_some hu
  rcases hv' with ⟨rfl, rfl⟩ | ⟨id', rfl, hb⟩
  · cases hv
  · cases hv
    refine .plain (x := .agg (vs u)) (σ1 := σ) ?_ (fun h => ask_seen_r (ids := [id]) rfl ?_ (fun j hj => by simp at hj; subst hj; exact ha h)) hd hk'
    · have hle : iv.toNat * sz + sz ≤ xs.length * sz := by rw [← flat_length hsz]; exact flat_le hsz hu
      simp only [stepOp, hx, Option.bind_some, loadD, hb, vs_length, flat_length hsz, if_true, hg, hj, if_pos hle, vs_drop, vs_take, flat_part hsz hu, Option.map_some]
    · simp only [touched, opLooks, List.flatMap_cons, List.flatMap_nil, hx, vids, List.append_nil]

theorem cells_of_vs {v : PV} {zs : List FV} (h : v.cells = some (vs zs)) : True := trivial

theorem Ops.storeS {id : Nat} {et : TypeId} {sz j m off ver : Nat} {xs : List (List FV)} {u zs u' : List FV} {iv : Int} {w : PV} (H : Has σ lo hi L) (k : Nat) (hk : L[k]? = some (.sl v et sz xs true)) (hv : v = .buf id xs.length sz) (hver : ver = xs.length * sz)
    (hu : at? xs iv = some u) (hx : operandD X e x = some (.ptr id ver off)) (hoff : off = iv.toNat * sz + j) (hy : operandD X e y = some w) (hw : w.cells = some (vs zs)) (hm : tsize X.P t1 = some m) (hz : zs.length = m) (hj : Nat.ble (j + m) sz = true)
    (hu' : u.take j ++ zs ++ u.drop (j + zs.length) = u') (ha : dr = true → Seen ops base i id true)
    (hk' : ∀ σ', Has σ' lo hi (L.set k (.sl v et sz (xs.set iv.toNat u') true)) → Ops X n dr ops base (i + 1) l e σ' K) : Ops X n dr ops base i (⟨none, .store t1 x y, t, p, af, none⟩ :: l) e σ K := by
  subst hver; subst hoff; subst hu'
  obtain ⟨hsz, hv'⟩ := H.sl hk
  obtain ⟨h0, hu⟩ := at?_some hu
  have hj : j + m ≤ sz := Nat.le_of_ble_eq_true hj
  have hul := hsz u (List.mem_of_getElem? hu)
  rcases hv' with ⟨rfl, rfl⟩ | ⟨id', rfl, hb⟩
  · cases hv
  · cases hv
    have hsp := flat_splice hsz hu (off := j) (zs := zs) (by omega)
    have hle : iv.toNat * sz + j + m ≤ (vs xs.flatten).length := by
      have := flat_le hsz hu
      rw [vs_length]; omega
    refine .plain0 (x := .undef) (σ1 := σ.put id (.blk et (vs (xs.set iv.toNat (u.take j ++ zs ++ u.drop (j + zs.length))).flatten) true)) ?_ (fun h => ask_seen_w (ids := [id]) rfl ?_ (fun j hj => by simp at hj; subst hj; exact ha h))
      (hk' _ (H.put hk rfl (r' := .sl _ et sz _ true) ⟨?_, .inr ⟨id, ?_, put_ent⟩⟩ rfl))
    · have hl2 : (vs xs.flatten).length = xs.length * sz := by rw [vs_length, flat_length hsz]
      simp only [stepOp, hx, hy, storeD, hb, hl2, if_true, hm, hw, vs_length, hz]
      rw [if_pos ⟨trivial, by rw [← hl2]; exact hle⟩, hsp, hz]
      rfl
    · simp only [touched, opLooks, List.flatMap_cons, List.flatMap_nil, hx, vids, List.append_nil]
    · intro y hy
      rcases List.mem_or_eq_of_mem_set hy with h | rfl
      · exact hsz y h
      · simp only [List.length_append, List.length_take, List.length_drop, hul]
        omega
    · rw [List.length_set]

/-- What an append's second operand brings. -/
inductive Bring (L : List Res) (sz : Nat) : PV → List (List FV) → Prop
  | p {xs : List (List FV)} (h : xs.all (fun y => y.length == sz) = true) : Bring L sz (.v (.sl xs)) xs
  | m {α : Type} {c : α → List FV} {xs : List α} (h : ∀ a, (c a).length = sz) : Bring L sz (.v (.sl (xs.map c))) (xs.map c)
  | s {v : PV} {et : TypeId} {xs : List (List FV)} {lv : Bool} (k : Nat) (h : L[k]? = some (.sl v et sz xs lv)) : Bring L sz v xs

theorem brought {sz : Nat} {w : PV} {ys : List (List FV)} (H : Has σ lo hi L) (h : Bring L sz w ys) : bringD σ sz w = some (vs ys.flatten, ys.length) ∧ ∀ y ∈ ys, y.length = sz := by
  cases h with
  | p h =>
    refine ⟨by simp only [bringD, h, if_true], fun y hy => by have := List.all_eq_true.1 h y hy; simpa using this⟩
  | @m α c xs h =>
    have h1 : (xs.map c).all (fun y => y.length == sz) = true := by simp [h]
    refine ⟨by simp only [bringD, h1, if_true], fun y hy => by have := List.all_eq_true.1 h1 y hy; simpa using this⟩
  | s k h =>
    obtain ⟨hs, hv⟩ := H.sl h
    refine ⟨?_, hs⟩
    rcases hv with ⟨rfl, rfl⟩ | ⟨id, rfl, hb⟩
    · rfl
    · simp only [bringD, hb, vs_length, flat_length hs, and_self, if_true]

theorem Ops.appendS {el : TypeId} {sz by_ : Nat} {w : PV} {xs ys : List (List FV)} {zs : List PV} (H : Has σ lo hi L) (hlo : lo ≤ base + i) (hhi : base + i < hi) (k : Nat) (hk : L[k]? = some (.sl v el sz xs true))
    (hx : operandD X e x = some v) (hy : operandD X e y = some w) (hb : Bring L sz w ys) (ht : tslice X.P t1 = some el) (hs : tsize X.P el = some sz) (hby : tbytes X.P el = some by_) (hz : tzero X.P el = some zs)
    (hc : (sz != 0 && by_ != 0 && zs.length == sz) = true) (hroom : (xs.length + ys.length) * by_ ≤ room)
    (ha : dr = true → ∀ id ∈ vids v ++ vids w, Seen ops base i id true) (hd : Nat.blt d n = true)
    (hk' : ∀ v' σ', Has σ' (base + i + 1) hi (L.set k (.sl v' el sz (xs ++ ys) true)) → Ops X n dr ops base (i + 1) l (set e d v') σ' K) :
    Ops X n dr ops base i (⟨some d, .call { callee := .builtin .append, args := #[x, y], argTypes := #[t1, t1] }, t, p, af, none⟩ :: l) e σ K := by
  simp only [Bool.and_eq_true, beq_iff_eq, bne_iff_ne, ne_eq] at hc
  obtain ⟨hb1, hb2⟩ := brought H hb
  obtain ⟨hsz, hv⟩ := H.sl hk
  have hall : ∀ y ∈ xs ++ ys, y.length = sz := fun y hy => (List.mem_append.1 hy).elim (hsz y) (hb2 y)
  have hn : ¬(sz = 0 ∨ by_ = 0 ∨ (some zs).map List.length ≠ some sz) := by
    rintro (h | h | h)
    · exact hc.1.1 h
    · exact hc.1.2 h
    · exact h (by rw [Option.map_some, hc.2])
  have ask : dr = true → drawAsk X ops base i ⟨some d, .call { callee := .builtin .append, args := #[x, y], argTypes := #[t1, t1] }, t, p, af, none⟩ e = true := fun h =>
    ask_seen_w rfl (by simp only [touched, opLooks, List.flatMap_cons, List.flatMap_nil, hx, hy, List.append_nil]) (ha h)
  have start : stepOp X (callL X) e σ (base + i) (.call { callee := .builtin .append, args := #[x, y], argTypes := #[t1, t1] }) = appendD X.P σ (base + i) t1 v w := by
    simp only [stepOp, callOpD, operandsD, hx, hy, Option.bind_some, builtinD, if_true]
  rcases hv with ⟨rfl, rfl⟩ | ⟨id, rfl, hbl⟩
  · by_cases h0 : ys = []
    · subst h0
      refine .plain (x := .nils) (σ1 := σ) ?_ ask hd (hk' _ _ ((H.weak (Nat.le_trans hlo (Nat.le_succ _)) (Nat.le_refl _)).say hk (r' := .sl .nils el sz ([] ++ []) true) ⟨by simp, .inl ⟨rfl, rfl⟩⟩ rfl))
      rw [start]
      simp only [appendD, ht, hs, hby, hb1, hz, if_neg hn, List.length_nil, if_true]
    · have hl : ys.length ≠ 0 := fun h => h0 (List.length_eq_zero_iff.1 h)
      refine .plain (x := .buf (base + i) ys.length sz) (σ1 := σ.put (base + i) (.blk el (vs ys.flatten) true)) ?_ ask hd
        (hk' _ _ (H.renew hk hlo hhi (r' := .sl (.buf (base + i) ys.length sz) el sz ([] ++ ys) true) ⟨hall, .inr ⟨base + i, rfl, put_ent⟩⟩ rfl))
      rw [start]
      simp only [List.length_nil, Nat.zero_add] at hroom
      simp only [appendD, ht, hs, hby, hb1, hz, if_neg hn, if_neg hl, if_pos hroom]
  · refine .plain (x := .buf id (xs.length + ys.length) sz) (σ1 := σ.put id (.blk el (vs xs.flatten ++ vs ys.flatten) true)) ?_ ask hd
      (hk' _ _ ((H.put hk rfl (r' := .sl (.buf id (xs.length + ys.length) sz) el sz (xs ++ ys) true) ⟨hall, .inr ⟨id, by rw [List.length_append], ?_⟩⟩ rfl).weak (Nat.le_trans hlo (Nat.le_succ _)) (Nat.le_refl _)))
    · rw [start]
      simp only [appendD, ht, hs, hby, hb1, hz, if_neg hn, hbl]
      rw [if_pos ⟨trivial, trivial, by rw [vs_length, flat_length hsz], hroom⟩]
    · rw [put_ent, List.flatten_append, vs_append]

/-- A slice that is nil, or was handed in. -/
def RO (v : PV) (xs : List (List FV)) : Prop := (v = .nils ∧ xs = []) ∨ v = .v (.sl xs)

/-! ### What is handed over -/
inductive ExpC : List Res → PV → FV → List Res → Prop
  | v {L : List Res} (y : FV) : ExpC L (.v y) y L
  | n {L : List Res} : ExpC L .nils (.sl []) L
  | ro {L : List Res} {v : PV} {xs : List (List FV)} (h : RO v xs) : ExpC L v (.sl xs) L
  | s {L : List Res} {v : PV} {et : TypeId} {sz : Nat} {xs : List (List FV)} {lv : Bool} (k : Nat) (h : L[k]? = some (.sl v et sz xs lv)) : ExpC L v (.sl xs) (L.set k (.sl v et sz xs false))

inductive ExpCs : List Res → List PV → List FV → List Res → Prop
  | nil {L : List Res} : ExpCs L [] [] L
  | cons {L L1 L2 : List Res} {x : PV} {y : FV} {xs : List PV} {ys : List FV} (h : ExpC L x y L1) (t : ExpCs L1 xs ys L2) : ExpCs L (x :: xs) (y :: ys) L2

inductive ExpV : List Res → PV → PV → List Res → Prop
  | c {L L' : List Res} {x : PV} {y : FV} (h : ExpC L x y L') : ExpV L x (.v y) L'
  | a {L L' : List Res} {xs : List PV} {ys : List FV} (h : ExpCs L xs ys L') : ExpV L (.agg xs) (.agg (vs ys)) L'
  | p {L : List Res} {x : PV} (h : x.pure = true) : ExpV L x x L

inductive ExpVs : List Res → List PV → List PV → List Res → Prop
  | nil {L : List Res} : ExpVs L [] [] L
  | cons {L L1 L2 : List Res} {x y : PV} {xs ys : List PV} (h : ExpV L x y L1) (t : ExpVs L1 xs ys L2) : ExpVs L (x :: xs) (y :: ys) L2

theorem chunk_flat {sz : Nat} : ∀ {xs : List (List FV)}, (∀ y ∈ xs, y.length = sz) → chunk sz xs.length xs.flatten = xs
  | [], _ => rfl
  | x :: xs, h => by
    have hx := h x List.mem_cons_self
    have := chunk_flat (xs := xs) fun y hy => h y (List.mem_cons_of_mem _ hy)
    simp only [List.length_cons, chunk, List.flatten_cons]
    rw [← hx, List.take_left, List.drop_left, hx, this]

theorem expCells_vs {d : Nat} {σ : Heap} (cs : List FV) : expCellsW (expCell (d + 1)) σ (vs cs) = some (cs, σ) := by
  induction cs with
  | nil => rfl
  | cons c cs ih =>
    simp only [vs, List.map_cons, expCellsW, expCell, Option.bind_some] at ih ⊢
    rw [ih]; rfl

theorem expCell_bufs {d : Nat} {σ : Heap} {id len sz : Nat} {elem : TypeId} {cells : List PV} {lv : Bool} (h : σ.ent id = .blk elem cells lv) (hl : cells.length = len * sz) :
    expCell (d + 1) σ (.buf id len sz) = (expCellsW (expCell d) (σ.put id (.blk elem cells false)) cells).bind fun r => some (.sl (chunk sz len r.1), r.2) := by
  rw [expCell]
  simp only [h, hl, if_true]

theorem expC_ok {x : PV} {y : FV} {L' : List Res} (H : Has σ lo hi L) (h : ExpC L x y L') : ∃ σ', expCell 6 σ x = some (y, σ') ∧ Has σ' lo hi L' ∧ σ'.nx = σ.nx := by
  cases h with
  | v y => exact ⟨σ, rfl, H, rfl⟩
  | n => exact ⟨σ, rfl, H, rfl⟩
  | ro h => rcases h with ⟨rfl, rfl⟩ | rfl <;> exact ⟨σ, rfl, H, rfl⟩
  | @s _ et sz xs lv k h =>
    obtain ⟨hs, hv⟩ := H.sl h
    rcases hv with ⟨rfl, rfl⟩ | ⟨id, rfl, hb⟩
    · exact ⟨σ, rfl, H.say h ⟨by simp, .inl ⟨rfl, rfl⟩⟩ rfl, rfl⟩
    · refine ⟨σ.put id (.blk et (vs xs.flatten) false), ?_, H.put h rfl (r' := .sl (.buf id xs.length sz) et sz xs false) ⟨hs, .inr ⟨id, rfl, put_ent⟩⟩ rfl, rfl⟩
      rw [expCell_bufs hb (by rw [vs_length, flat_length hs]), expCells_vs (d := 4)]
      simp only [Option.bind_some, chunk_flat hs]

theorem expCs_ok : ∀ {xs : List PV} {σ : Heap} {L L' : List Res} {ys : List FV}, Has σ lo hi L → ExpCs L xs ys L' → ∃ σ', expList σ xs = some (ys, σ') ∧ Has σ' lo hi L' ∧ σ'.nx = σ.nx
  | [], σ, L, L', ys, H, h => by cases h; exact ⟨σ, rfl, H, rfl⟩
  | x :: xs, σ, L, L', ys, H, h => by
    cases h with
    | cons h t =>
      obtain ⟨σ1, q1, q2, q3⟩ := expC_ok H h
      obtain ⟨σ2, p1, p2, p3⟩ := expCs_ok q2 t
      refine ⟨σ2, ?_, p2, p3.trans q3⟩
      unfold expList at p1 ⊢
      simp only [expCellsW, q1, Option.bind_some, p1]

theorem expV_ok {x y : PV} {L' : List Res} (H : Has σ lo hi L) (h : ExpV L x y L') : ∃ σ', expVal σ x = some (y, σ') ∧ Has σ' lo hi L' ∧ σ'.nx = σ.nx := by
  cases h with
  | c h =>
    obtain ⟨σ', q1, q2, q3⟩ := expC_ok H h
    refine ⟨σ', ?_, q2, q3⟩
    cases h with
    | v y => simp only [expVal, q1, Option.bind_some]
    | n => simp only [expVal, q1, Option.bind_some]
    | ro h => rcases h with ⟨rfl, rfl⟩ | rfl <;> simp only [expVal, q1, Option.bind_some]
    | s k h =>
      obtain ⟨_, ⟨rfl, rfl⟩ | ⟨id, rfl, hb⟩⟩ := H.sl h
      · simp only [expVal, q1, Option.bind_some]
      · simp only [expVal, q1, Option.bind_some]
  | a h =>
    obtain ⟨σ', q1, q2, q3⟩ := expCs_ok H h
    exact ⟨σ', by simp only [expVal, q1, Option.bind_some], q2, q3⟩
  | p h => exact ⟨σ, expVal_pure h, H, rfl⟩

theorem expArg_val {x y : PV} {σ' : Heap} (h : expVal σ x = some (y, σ')) (hp : ∀ (id ver off : Nat), x ≠ .ptr id ver off) (hc : ∀ (f : FuncId) (a c : List PV), x ≠ .clo f a c) (hy : ∀ id, x ≠ .yld id) : expArg σ x = some (y, σ') := by
  cases x <;> first | exact h | exact absurd rfl (hp _ _ _) | exact absurd rfl (hc _ _ _) | exact absurd rfl (hy _)

theorem expV_shape {x y : PV} {L' : List Res} (H : Has σ lo hi L) (h : ExpV L x y L') : (∀ (id ver off : Nat), x ≠ .ptr id ver off) ∧ (∀ (f : FuncId) (a c : List PV), x ≠ .clo f a c) ∧ (∀ id, x ≠ .yld id) ∧ (∀ xs, x ≠ .tup xs) ∧ y.pure = true := by
  cases h with
  | c h =>
    cases h with
    | v y => exact ⟨by intros; simp, by intros; simp, by intros; simp, by intros; simp, rfl⟩
    | n => exact ⟨by intros; simp, by intros; simp, by intros; simp, by intros; simp, rfl⟩
    | ro h => rcases h with ⟨rfl, rfl⟩ | rfl <;> exact ⟨by intros; simp, by intros; simp, by intros; simp, by intros; simp, rfl⟩
    | s k h =>
      obtain ⟨_, ⟨rfl, rfl⟩ | ⟨id, rfl, hb⟩⟩ := H.sl h
      · exact ⟨by intros; simp, by intros; simp, by intros; simp, by intros; simp, rfl⟩
      · exact ⟨by intros; simp, by intros; simp, by intros; simp, by intros; simp, rfl⟩
  | a h => exact ⟨by intros; simp, by intros; simp, by intros; simp, by intros; simp, by simp [PV.pure, vs, PV.isV]⟩
  | p h => cases x <;> simp [PV.pure] at h ⊢; all_goals simp_all

theorem expVs_ok : ∀ {xs : List PV} {σ : Heap} {L L' : List Res} {ys : List PV}, Has σ lo hi L → ExpVs L xs ys L' → ∃ σ', expVals σ xs = some (ys, σ') ∧ expArgs σ xs = some (ys, σ') ∧ Has σ' lo hi L' ∧ σ'.nx = σ.nx ∧ ys.all PV.pure = true
  | [], σ, L, L', ys, H, h => by cases h; exact ⟨σ, rfl, rfl, H, rfl, rfl⟩
  | x :: xs, σ, L, L', ys, H, h => by
    cases h with
    | cons h t =>
      obtain ⟨σ1, q1, q2, q3⟩ := expV_ok H h
      obtain ⟨s1, s2, s3, _, s4⟩ := expV_shape H h
      obtain ⟨σ2, p1, p1', p2, p3, p4⟩ := expVs_ok q2 t
      refine ⟨σ2, ?_, ?_, p2, p3.trans q3, by simp [s4, p4]⟩
      · simp only [expVals, q1, Option.bind_some, p1]
      · simp only [expArgs, expArg_val q1 s1 s2 s3, Option.bind_some, p1']

/-- What an answer is for the caller. -/
inductive ExpR (L : List Res) : List PV → PV → List Res → Prop
  | one {x y : PV} {L' : List Res} (h : ExpV L x y L') : ExpR L [x] y L'
  | two {x x' : PV} {xs ys : List PV} {L' : List Res} (h : ExpVs L (x :: x' :: xs) ys L') : ExpR L (x :: x' :: xs) (.tup ys) L'
  | zero : ExpR L [] (.tup []) L

theorem expR_ok {xs : List PV} {y : PV} {L' : List Res} (H : Has σ lo hi L) (h : ExpR L xs y L') : ∃ σ', expRes σ (packD xs) = some (y, σ') ∧ Has σ' lo hi L' := by
  cases h with
  | @one x _ _ h =>
    obtain ⟨σ', q1, q2, _⟩ := expV_ok H h
    obtain ⟨_, _, _, s4, _⟩ := expV_shape H h
    refine ⟨σ', ?_, q2⟩
    show expRes σ x = _
    cases x <;> first | exact q1 | exact absurd rfl (s4 _)
  | two h =>
    obtain ⟨σ', q1, _, q2, _⟩ := expVs_ok H h
    exact ⟨σ', by simp only [packD, expRes, q1, Option.bind_some], q2⟩
  | zero => exact ⟨σ, rfl, H⟩

/-- A call of a function on values some of which are read first. -/
theorem callL_exp {f : FuncId} {args args' : List PV} {r : PV} {σ' : Heap} (hF : Fn X f args' r) (hi0 : X.intr f args = none) (hi1 : X.intr f args' = none) (he : expArgs σ args = some (args', σ')) : callL X (.fn f) args σ = some (r, σ') := by
  obtain ⟨k, hk⟩ := callL_iff.1 (hF.call σ')
  refine callL_iff.2 ⟨k, ?_⟩
  cases k with
  | zero => simp [callD] at hk
  | succ k =>
    simp only [callD, hi1, hF.keep, Bool.false_eq_true, if_false, expArgs_pure hF.pure, hF.opn, hF.pure, if_true] at hk
    simp only [callD, hi0, hF.keep, Bool.false_eq_true, if_false, he, hF.opn, hF.pure, if_true]
    exact hk

theorem Ops.callX {f : FuncId} {args : Array Operand} {ts : Array TypeId} {xs ys : List PV} {r : PV} {L' : List Res} (H : Has σ lo hi L) (ha : operandsD X e args.toList = some xs) (hE : ExpVs L xs ys L') (hf : Fn X f ys r) (hi0 : X.intr f xs = none) (hi1 : X.intr f ys = none) (hdr : dr = false) (hd : Nat.blt d n = true)
    (hk : ∀ σ', Has σ' lo hi L' → Ops X n dr ops base (i + 1) l (set e d r) σ' K) :
    Ops X n dr ops base i (⟨some d, .call { callee := .value (.func f), args := args, argTypes := ts }, t, p, af, none⟩ :: l) e σ K := by
  obtain ⟨σ', q1, q2, q3, _⟩ := expVs_ok H hE
  exact .plain (x := r) (σ1 := σ') (by simp only [stepOp, callOpD, ha, operandD, callL_exp hf hi0 hi1 q2]) (fun h => by rw [hdr] at h; cases h) hd (hk σ' q3)

/-! ### Joins, loops, ends -/
abbrev Hs (σ : Heap) (L : List Res) : Prop := Has σ σ.nx σ.nx L

def EnvHas (e : Env) : List (Nat × PV) → Prop
  | [] => True
  | (k, v) :: l => e k = v ∧ EnvHas e l
def sets (e : Env) : List (Nat × PV) → Env
  | [] => e
  | (k, v) :: l => set (sets e l) k v

theorem EnvHas.eq : ∀ {l : List (Nat × PV)} {e : Env}, EnvHas e l → e = sets e l
  | [], e, _ => rfl
  | (k, v) :: l, e, ⟨h, t⟩ => by
    have ih := EnvHas.eq t
    funext j
    simp only [sets, set]
    cases hj : Nat.beq j k with
    | true => rw [Nat.eq_of_beq_eq_true hj]; exact h
    | false => exact congrFun ih j
theorem EnvHas.ex {l : List (Nat × PV)} {e : Env} (h : EnvHas e l) : ∃ e0, e = sets e0 l := ⟨e, h.eq⟩

theorem holds_ent {r : Res} {σ σ' : Heap} (h : r.holds σ) (he : σ'.ent = σ.ent) (hn : σ.nx ≤ σ'.nx) : r.holds σ' := by
  cases r with
  | blk id t cells => show σ'.ent id = _; rw [he]; exact h
  | sl v e sz xs live => exact ⟨h.1, h.2.imp (fun h => h) fun ⟨id, hv, hb⟩ => ⟨id, hv, by rw [he]; exact hb⟩⟩
  | floor m => exact Nat.le_trans h hn
  | loop id fn e n ps as_ bo st pd => show σ'.ent id = _; rw [he]; exact h

theorem Has.enter (H : Hs σ L) (m : Nat) : Has ⟨σ.nx + m, σ.ent⟩ σ.nx (σ.nx + m) L :=
  ⟨fun k r hk => holds_ent (H.holds k r hk) rfl (Nat.le_add_right _ _), fun k r hk id ho => ⟨.inl (H.lt k r hk id ho).2, Nat.lt_of_lt_of_le (H.lt k r hk id ho).2 (Nat.le_add_right _ _)⟩, H.sep, Nat.le_refl _⟩

theorem Runs.regionH {id : Nat} {os : List Oper} (m : Nat) (hm : os.length = m) (H : Hs σ L) (h : ∀ base σ', Has σ' base (base + m) L → Ops X n false os.toArray base 0 os e σ' (Q .normal)) : Runs X n fn (.region id os.toArray false) e σ Q := by
  subst hm
  have h := h σ.nx _ (H.enter os.length)
  exact Runs.region (m' := σ.nx + os.length) rfl h

theorem Runs.drawnH {id : Nat} {os : List Oper} (m : Nat) (hm : os.length = m) (hd : drawOK os.toArray = true) (H : Hs σ L) (h : ∀ base σ', Has σ' base (base + m) L → (∀ (k : Nat) (r : Res), L[k]? = some r → ∀ id, r.owner = some id → id < base) → Ops X n true os.toArray base 0 os e σ' (Q .normal)) : Runs X n fn (.region id os.toArray true) e σ Q := by
  subst hm
  have h := h σ.nx _ (H.enter os.length) (fun k r hk id ho => (H.lt k r hk id ho).2)
  exact Runs.drawn (m' := σ.nx + os.length) hd rfl h

theorem runOps_append {call : Call0} : ∀ (l1 l2 : List Oper) (i : Nat) (e : Env) (σ : Heap), runOps X call n ops base i (l1 ++ l2) e σ = (runOps X call n ops base i l1 e σ).bind fun r => runOps X call n ops base (i + l1.length) l2 r.1 r.2
  | [], l2, i, e, σ => rfl
  | o :: l1, l2, i, e, σ => by
    simp only [List.cons_append, runOps, List.length_cons]
    cases stepO X call n ops base i o e σ with
    | none => rfl
    | some r =>
      simp only [Option.bind_some]
      rw [runOps_append l1 l2 (i + 1) r.1 r.2, show i + 1 + l1.length = i + (l1.length + 1) by omega]

theorem runDraw_append {call : Call0} : ∀ (l1 l2 : List Oper) (i : Nat) (e : Env) (σ : Heap), runDraw X call n ops base i (l1 ++ l2) e σ = (runDraw X call n ops base i l1 e σ).bind fun r => runDraw X call n ops base (i + l1.length) l2 r.1 r.2
  | [], l2, i, e, σ => rfl
  | o :: l1, l2, i, e, σ => by
    simp only [List.cons_append, runDraw, List.length_cons]
    cases stepW X call n ops base i o e σ with
    | none => rfl
    | some r =>
      simp only [Option.bind_some]
      rw [runDraw_append l1 l2 (i + 1) r.1 r.2, show i + 1 + l1.length = i + (l1.length + 1) by omega]

/-- The first k operations, and the rest. -/
theorem Ops.mid (k : Nat) {K1 : Env → Heap → Prop} (hk : Nat.ble k l.length = true) (h1 : Ops X n dr ops base i (l.take k) e σ K1) (h2 : ∀ e σ, K1 e σ → Ops X n dr ops base (i + k) (l.drop k) e σ K) : Ops X n dr ops base i l e σ K := by
  obtain ⟨e1, σ1, q1, q2⟩ := h1.run
  obtain ⟨e2, σ2, p1, p2⟩ := (h2 e1 σ1 q2).run
  have hl : (l.take k).length = k := by rw [List.length_take]; have := Nat.le_of_ble_eq_true hk; omega
  refine ⟨⟨e2, σ2, ?_, p2⟩⟩
  cases dr with
  | false =>
    simp only [Bool.false_eq_true, if_false] at q1 p1 ⊢
    rw [← List.take_append_drop k l, runOps_append, q1, Option.bind_some, hl]; exact p1
  | true =>
    simp only [if_true] at q1 p1 ⊢
    rw [← List.take_append_drop k l, runDraw_append, q1, Option.bind_some, hl]; exact p1

/-! ### Loops over a state -/
def iterO {S R : Type} (step : S → Option (S ⊕ R)) : Nat → S → Option R
  | 0, _ => none
  | k + 1, s => match step s with
    | some (.inl s') => iterO step k s'
    | some (.inr r) => some r
    | none => none

def LoopEnd {S R : Type} (I : S → Env → Heap → Prop) (J : R → Ex → Env → Heap → Prop) : S ⊕ R → Ex → Env → Heap → Prop
  | .inl s, x, e, σ => x = .normal ∧ I s e σ
  | .inr r, x, e, σ => x ≠ .normal ∧ J r x e σ

theorem Runs.loopO {S R : Type} {step : S → Option (S ⊕ R)} {s : S} {y : R} {k : Nat} (h : iterO step k s = some y) (I : S → Env → Heap → Prop) (J : R → Ex → Env → Heap → Prop) (h0 : I s e σ)
    (hs : ∀ s e σ, I s e σ → ∀ z, step s = some z → Runs X n fn c e σ (LoopEnd I J z)) : Runs X n fn (.loop c) e σ (J y) := by
  refine Runs.loop (fun m e σ => ∃ s, iterO step m s = some y ∧ I s e σ) (m := k) ⟨s, h, h0⟩ ?_
  rintro m e σ ⟨s, h1, h2⟩
  cases m with
  | zero => cases h1
  | succ m =>
    simp only [iterO] at h1
    split at h1
    · rename_i s' hst
      refine (hs s e σ h2 _ hst).mono ?_
      rintro x e' σ' ⟨rfl, hI⟩
      exact ⟨m, Nat.lt_succ_self m, s', h1, hI⟩
    · rename_i r hst
      cases h1
      refine (hs s e σ h2 _ hst).mono ?_
      rintro x e' σ' ⟨hx, hJ⟩
      cases x with
      | normal => exact absurd rfl hx
      | exit id => exact hJ
      | ret => exact hJ
    · cases h1
end

/-- Some number of rounds comes to an end. -/
noncomputable def loopO {S R : Type} (step : S → Option (S ⊕ R)) (s : S) : Option R :=
  open Classical in if h : ∃ r, ∃ k, iterO step k s = some r then some h.choose else none

theorem iterO_mono {S R : Type} {step : S → Option (S ⊕ R)} : ∀ {k : Nat} {s : S} {r : R}, iterO step k s = some r → ∀ {m : Nat}, k ≤ m → iterO step m s = some r
  | 0, s, r, h, _, _ => by cases h
  | k + 1, s, r, h, m, hm => by
    obtain ⟨m, rfl⟩ : ∃ j, m = j + 1 := ⟨m - 1, by omega⟩
    simp only [iterO] at h ⊢
    split at h
    · rename_i s' hs; exact iterO_mono h (by omega)
    · exact h
    · cases h

theorem loopO_iff {S R : Type} {step : S → Option (S ⊕ R)} {s : S} {r : R} : loopO step s = some r ↔ ∃ k, iterO step k s = some r := by
  unfold loopO
  constructor
  · intro h
    split at h
    · rename_i hex; cases h; exact hex.choose_spec
    · cases h
  · rintro ⟨k, h⟩
    have hex : ∃ r, ∃ k, iterO step k s = some r := ⟨r, k, h⟩
    rw [dif_pos hex]
    obtain ⟨k', h'⟩ := hex.choose_spec
    have e1 := iterO_mono h (Nat.le_max_left k k')
    have e2 := iterO_mono h' (Nat.le_max_right k k')
    rw [e1] at e2
    exact e2.symm

/-- One round. -/
theorem loopO_eq {S R : Type} (step : S → Option (S ⊕ R)) (s : S) : loopO step s = match step s with | some (.inl s') => loopO step s' | some (.inr r) => some r | none => none := by
  cases hs : step s with
  | none =>
    cases h : loopO step s with
    | none => rfl
    | some r =>
      obtain ⟨k, hk⟩ := loopO_iff.1 h
      cases k with
      | zero => cases hk
      | succ k => simp [iterO, hs] at hk
  | some z =>
    cases z with
    | inr r => exact loopO_iff.2 ⟨1, by simp [iterO, hs]⟩
    | inl s' =>
      simp only
      cases h : loopO step s' with
      | some r =>
        obtain ⟨k, hk⟩ := loopO_iff.1 h
        exact loopO_iff.2 ⟨k + 1, by simp only [iterO, hs]; exact hk⟩
      | none =>
        cases h2 : loopO step s with
        | none => rfl
        | some r =>
          obtain ⟨k, hk⟩ := loopO_iff.1 h2
          cases k with
          | zero => cases hk
          | succ k =>
            simp only [iterO, hs] at hk
            rw [loopO_iff.2 ⟨k, hk⟩] at h
            cases h

/-- What a piece of code comes to that may answer for its function. -/
inductive Jx (A R : Type) where
  | go (a : A)
  | ret (r : R)

/-! ### Reading what was printed -/
theorem bind_some {α β : Type} {x : Option α} {f : α → Option β} {b : β} (h : x.bind f = some b) : ∃ a, x = some a ∧ f a = some b := Option.bind_eq_some_iff.1 h
theorem cond_T {α : Type} {c : Bool} {a b r : α} (hc : c = true) (h : (bif c then a else b) = r) : a = r := by rw [hc] at h; exact h
theorem cond_F {α : Type} {c : Bool} {a b r : α} (hc : c = false) (h : (bif c then a else b) = r) : b = r := by rw [hc] at h; exact h

section
variable {X : Ctx} {n : Nat} {fn : FuncId} {e : Env} {σ : Heap} {lo hi : Nat} {L : List Res}

/-! ### A function's end -/
inductive ResD (P : Program) (e : Env) (L : List Res) : List ResultVar → List PV → Prop
  | nil : ResD P e L [] []
  | tmp {t : Nat} {v : PV} {rs : List ResultVar} {xs : List PV} (h : e t = v) (k : ResD P e L rs xs) : ResD P e L (.tmp t :: rs) (v :: xs)
  | cell {a : Nat} {t : TypeId} {id off ver : Nat} {te : TypeId} {cells : List PV} {v : PV} {rs : List ResultVar} {xs : List PV} (i : Nat) (hi : L[i]? = some (.blk id te cells)) (h : e a = .ptr id ver off) (hv : cells.length = ver) (hg : tagg P t = some false) (hc : cells[off]? = some v) (k : ResD P e L rs xs) : ResD P e L (.cell a t :: rs) (v :: xs)
  | agg {a : Nat} {t : TypeId} {id off ver m : Nat} {te : TypeId} {cells cs : List PV} {rs : List ResultVar} {xs : List PV} (i : Nat) (hi : L[i]? = some (.blk id te cells)) (h : e a = .ptr id ver off) (hv : cells.length = ver) (hg : tagg P t = some true) (hm : tsize P t = some m) (hl : Nat.ble (off + m) cells.length = true) (hc : (cells.drop off).take m = cs) (k : ResD P e L rs xs) : ResD P e L (.cell a t :: rs) (.agg cs :: xs)

theorem resD_ok {P : Program} {rs : List ResultVar} {xs : List PV} (H : Has σ lo hi L) (h : ResD P e L rs xs) : resultsD P e σ rs = some xs := by
  induction h with
  | nil => rfl
  | tmp h k ih => simp only [resultsD, ih, Option.map_some, h]
  | cell i hi h hv hg hc k ih => simp only [resultsD, h, loadD, H.blk hi, hv, if_true, hg, hc, Option.bind_some, ih, Option.map_some]
  | agg i hi h hv hg hm hl hc k ih =>
    have h2 := Nat.le_of_ble_eq_true hl
    rw [hv] at h2
    simp only [resultsD, h, loadD, H.blk hi, hv, if_true, hg, hm, if_pos h2, hc, Option.bind_some, ih, Option.map_some]

theorem Ends.H {rs : List ResultVar} {xs : List PV} {r : PV} {x : Ex} {L' : List Res} (hx : x = .normal ∨ x = .ret) (H : Has σ lo hi L) (h : ResD X.P e L rs xs) (hr : ExpR L xs r L') : Ends X rs r x e σ := by
  obtain ⟨σ', q, _⟩ := expR_ok H hr
  exact ⟨hx, xs, σ', resD_ok H h, q⟩

/-- Likewise, and what lies there. -/
structure EndsH (X : Ctx) (rs : List ResultVar) (r : PV) (L : List Res) (x : Ex) (e : Env) (σ : Heap) : Prop where
  out : (x = .normal ∨ x = .ret) ∧ ∃ xs σ' lo hi, resultsD X.P e σ rs = some xs ∧ expRes σ (packD xs) = some (r, σ') ∧ Has σ' lo hi L

theorem Has.drop (H : Has σ lo hi L) : ∀ n : Nat, Has σ lo hi (L.drop n)
  | 0 => H
  | n + 1 => by
    have h1 := (Has.drop H n).erase 0
    rwa [List.eraseIdx_zero, List.tail_drop] at h1

theorem EndsH.H {rs : List ResultVar} {xs : List PV} {r : PV} {x : Ex} {L' L0 : List Res} (hx : x = .normal ∨ x = .ret) (H : Has σ lo hi L) (h : ResD X.P e L rs xs) (hr : ExpR L xs r L') (k : Nat) (hk : L'.drop k = L0) : EndsH X rs r L0 x e σ := by
  obtain ⟨σ', q, H'⟩ := expR_ok H hr
  exact ⟨hx, xs, σ', lo, hi, resD_ok H h, q, hk ▸ H'.drop k⟩
end

end Go.Dn
