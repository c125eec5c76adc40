/- Package ir: a text is read as the unit that it was written from, but for positions; whole units. -/
import Derived.Test.YtoclmkdfcafhfaaGreatDoorQag
import Derived.Lib.IndexMore
set_option maxRecDepth 20000
set_option maxHeartbeats 2000000
namespace Go.Proofs.YtoclmkdfcafhfaaGreatDoor.Iq
section
open Go Go.Proofs.YtoclmkdfcafhfaaGreatDoor.Ou
mutual
def strip : T → T
  | .mk op _ n m s kids => .mk op 0 n m s (stripL kids)
def stripL : List T → List T
  | [] => []
  | k :: r => strip k :: stripL r
end
mutual
def nf : T → Nat
  | .mk _ _ _ _ _ kids => 1 + kf kids
def kf : List T → Nat
  | [] => 1
  | k :: r => 1 + nf k + kf r
end
section
variable (row : Int → List UInt8 × List UInt8) (opOf : List UInt8 → Option Int)
mutual
def OkT (deep : Int) : T → Prop
  | .mk op _ n m s kids => (row op).1 ≠ [] ∧ (-9007199254740992 ≤ n ∧ n ≤ 9007199254740992) ∧ (-9007199254740992 ≤ m ∧ m ≤ 9007199254740992) ∧ kids.length ≤ 1048576 ∧ s.size ≤ 65536 ∧ deep ≤ 2048 ∧ OkL deep kids
def OkL (deep : Int) : List T → Prop
  | [] => True
  | k :: r => OkT (deep + 1) k ∧ OkL deep r
end
variable {row opOf}
theorem byS_size (s : ByteArray) : (byS s).length = s.size := rfl
mutual
theorem back (hR : RowOp row opOf) : ∀ (t : T) (deep : Int), OkT row deep t → ∀ (f : Nat) (k : Int) (r : List UInt8), nf t ≤ f → ∃ k', nodeR opOf f deep k (nodeT row t ++ r) = .ok (strip t, r, k')
  | .mk op a n m s kids, deep, h, f, k, r, hf => by
    simp only [OkT] at h
    obtain ⟨h1, h2, h3, h4, h5, h6, h7⟩ := h
    cases f with
    | zero => simp only [nf] at hf; omega
    | succ f =>
      simp only [nf] at hf
      obtain ⟨k', hk⟩ := backL hR kids deep h7 f (k + 1) r (by omega)
      refine ⟨k', ?_⟩
      unfold nodeR
      simp only [nodeT]
      rw [List.append_assoc, List.cons_append, cutB_app (lineT_fr hR op n m kids.length (byS s))]
      dsimp only
      rw [lineN_line hR h1 h2 h3 h4 (by rw [byS_size]; exact h5)]
      dsimp only
      rw [if_neg (by omega), hk]
      dsimp only
      rw [ofB_byS]
      simp only [strip]
theorem backL (hR : RowOp row opOf) : ∀ (ts : List T) (deep : Int), OkL row deep ts → ∀ (f : Nat) (k : Int) (r : List UInt8), kf ts ≤ f → ∃ k', kidsR opOf f deep ts.length k (kidsT row ts ++ r) = .ok (stripL ts, r, k')
  | [], deep, h, f, k, r, hf => by
    cases f with
    | zero => simp only [kf] at hf; omega
    | succ f =>
      refine ⟨k, ?_⟩
      simp only [List.length_nil, kidsT, stripL, List.nil_append]
      unfold kidsR
      rfl
  | t :: ts, deep, h, f, k, r, hf => by
    simp only [OkL] at h
    cases f with
    | zero => simp only [kf] at hf; omega
    | succ f =>
      simp only [kf] at hf
      obtain ⟨k1, h1⟩ := back hR t (deep + 1) h.1 f k (kidsT row ts ++ r) (by omega)
      obtain ⟨k2, h2⟩ := backL hR ts deep h.2 f k1 r (by omega)
      refine ⟨k2, ?_⟩
      simp only [List.length_cons, kidsT, stripL, List.append_assoc]
      unfold kidsR
      rw [h1]
      dsimp only
      rw [h2]
end
end
structure FnP where
  (name : ByteArray) (kind len loc : Int) (body : T)
def pre (p l : List UInt8) : Option (List UInt8) := if p <+: l then some (l.drop p.length) else none
theorem pre_app (p l : List UInt8) : pre p (p ++ l) = some l := by
  unfold pre
  rw [if_pos (List.prefix_append p l), List.drop_left]
theorem pre_some {p l r : List UInt8} (h : pre p l = some r) : l = p ++ r := by
  unfold pre at h
  split at h
  · rename_i hp
    cases h
    obtain ⟨t, rfl⟩ := hp
    rw [List.drop_left]
  · cases h
def funcP : List UInt8 := [102, 117, 110, 99, 32]
def unitP : List UInt8 := [117, 110, 105, 116, 32]
def lastQ (l : List UInt8) : Nat := l.length - (l.reverse.takeWhile (fun c => decide (c ≠ 34))).length
def funcN (l : List UInt8) : Option (List UInt8 × Int × Int × Int) := match pre funcP l with
  | none => none
  | some rest => match lastB (rest.take (lastQ rest)), pre [32] (rest.drop (lastQ rest)) with
    | some name, some r0 => match cutB 32 r0 with
      | none => none
      | some (w1, r1) => match cutB 32 r1 with
        | none => none
        | some (w2, w3) => match numZ w1, numZ w2, numZ w3 with
          | some a, some b, some c => some (name, a, b, c)
          | _, _, _ => none
    | _, _ => none
def numsT (a b c : Int) : List UInt8 := Lib.itoa a ++ 32 :: (Lib.itoa b ++ 32 :: Lib.itoa c)
def funcT (name : List UInt8) (a b c : Int) : List UInt8 := funcP ++ (quoteB name ++ 32 :: numsT a b c)
theorem funcN_some {l name : List UInt8} {a b c : Int} (h : funcN l = some (name, a, b, c)) : l = funcT name a b c := by
  unfold funcN at h
  split at h
  · cases h
  rename_i rest hp
  split at h
  · rename_i nm r0 e1 e2
    split at h
    · cases h
    rename_i w1 r1 c1
    split at h
    · cases h
    rename_i w2 w3 c2
    split at h
    · rename_i a' b' c' n1 n2 n3
      cases h
      unfold funcT numsT
      rw [(numZ_some n1).2, (numZ_some n2).2, (numZ_some n3).2, pre_some hp]
      have h1 := lastB_some e1
      have h2 := pre_some e2
      have h3 := List.take_append_drop (lastQ rest) rest
      rw [h1, h2, (cutB_some c1).1, (cutB_some c2).1] at h3
      rw [← h3]
      rfl
    · cases h
  · cases h
theorem nums_fr {c0 : UInt8} (h : c0.toNat = 34) (a b c : Int) : Fr c0 (32 :: numsT a b c) := by
  have h45 : c0.toNat < 45 := by omega
  have h32 : c0 ≠ 32 := fun e => by rw [e] at h; exact absurd h (by decide)
  unfold numsT
  exact fr_cons h32 (fr_app (itoa_fr _ h45) (fr_cons h32 (fr_app (itoa_fr _ h45) (fr_cons h32 (itoa_fr _ h45)))))
theorem lastQ_quote (name : List UInt8) (x : List UInt8) (h : Fr 34 x) : lastQ (quoteB name ++ x) = (quoteB name).length := by
  unfold lastQ
  have e : (quoteB name ++ x).reverse = x.reverse ++ 34 :: (34 :: name.flatMap q1).reverse := by
    unfold quoteB
    rw [List.reverse_append]
    congr 1
    rw [show (34 :: (name.flatMap q1 ++ [34]) : List UInt8) = (34 :: name.flatMap q1) ++ [34] from rfl, List.reverse_append]
    rfl
  rw [e, List.takeWhile_append_of_pos (fun y hy => by
    have : y ≠ 34 := fun e => h (by rw [← e]; exact List.mem_reverse.1 hy)
    simpa using this)]
  simp
theorem funcN_line {name : List UInt8} {a b c : Int} (hn : name.length ≤ 65536) (ha : -9007199254740992 ≤ a ∧ a ≤ 9007199254740992) (hb : -9007199254740992 ≤ b ∧ b ≤ 9007199254740992) (hc : -9007199254740992 ≤ c ∧ c ≤ 9007199254740992) :
    funcN (funcT name a b c) = some (name, a, b, c) := by
  unfold funcN funcT
  rw [pre_app]
  dsimp only
  rw [lastQ_quote name (32 :: numsT a b c) (nums_fr rfl a b c), List.take_left, List.drop_left, lastB_quote hn, show (32 :: numsT a b c : List UInt8) = [32] ++ numsT a b c from rfl, pre_app]
  dsimp only
  unfold numsT
  rw [cutB_app (itoa_fr32 a)]
  dsimp only
  rw [cutB_app (itoa_fr32 b)]
  dsimp only
  rw [numZ_itoa ha, numZ_itoa hb, numZ_itoa hc]
theorem funcT_fr (name : List UInt8) (a b c : Int) : Fr 10 (funcT name a b c) := by
  unfold funcT numsT
  exact fr_app (by unfold Fr funcP; decide +kernel) (fr_app (quote_fr (by decide) _) (fr_cons (by decide) (fr_app (itoa_fr _ (by decide)) (fr_cons (by decide) (fr_app (itoa_fr _ (by decide)) (fr_cons (by decide) (itoa_fr _ (by decide))))))))
end
section
open Go Go.Proofs.YtoclmkdfcafhfaaGreatDoor.Ou
section
variable (row : Int → List UInt8 × List UInt8) (opOf : List UInt8 → Option Int)
def fnT (f : FnP) : List UInt8 := funcT (byS f.name) f.kind f.len f.loc ++ 10 :: nodeT row f.body
def unitT (fs : List FnP) : List UInt8 := (unitP ++ Lib.itoa fs.length) ++ 10 :: fs.flatMap (fnT row)
def funcsR (g : Nat) : Nat → Int → List UInt8 → RdR (List FnP)
  | 0, k, s => .ok ([], s, k)
  | c + 1, k, s => match cutB 10 s with
    | none => .error (k + 1, 8)
    | some (l, r) => match funcN l with
      | none => .error (k + 1, 7)
      | some (nm, a, b, d) => match nodeR opOf g 1 (k + 1) r with
        | .error e => .error e
        | .ok (t, r', k') => match funcsR g c k' r' with
          | .error e => .error e
          | .ok (fs, r'', k'') => .ok (⟨ofB nm, a, b, d, t⟩ :: fs, r'', k'')
def countN (l : List UInt8) : Option Nat := match pre unitP l with
  | none => none
  | some w => match numB w with
    | none => none
    | some n => if 1 ≤ n ∧ n ≤ 4096 then some n.toNat else none
def unitR (right : List FnP → Bool) (s : List UInt8) : Except (Int × Int) (List FnP) :=
  if 1048576 < s.length then .error (0, 9) else match cutB 10 s with
    | none => .error (1, 8)
    | some (l, r) => match countN l with
      | none => .error (1, 7)
      | some c => match funcsR opOf (2 * s.length + 4) c 1 r with
        | .error e => .error e
        | .ok (fs, r', k) => if r' = [] then (if right fs = true then .ok fs else .error (0, 1)) else .error (k + 1, 7)
variable {row opOf}
theorem funcs_text (hR : RowOp row opOf) (g : Nat) : ∀ (c : Nat) (k : Int) (s : List UInt8) (fs : List FnP) (r : List UInt8) (k' : Int), funcsR opOf g c k s = .ok (fs, r, k') → s = fs.flatMap (fnT row) ++ r ∧ fs.length = c
  | 0, k, s, fs, r, k', h => by
    unfold funcsR at h
    cases h
    exact ⟨by simp, rfl⟩
  | c + 1, k, s, fs, r, k', h => by
    unfold funcsR at h
    split at h
    · cases h
    rename_i l r1 hc
    split at h
    · cases h
    rename_i nm a b d hf
    split at h
    · cases h
    rename_i t r2 k2 hn
    split at h
    · cases h
    rename_i fs' r3 k3 hr
    cases h
    obtain ⟨e1, e2⟩ := funcs_text hR g c k2 r2 fs' r k' hr
    have e3 := (read_text hR g).1 _ _ _ _ _ _ hn
    refine ⟨?_, by rw [List.length_cons, e2]⟩
    have e4 : fnT row ⟨ofB nm, a, b, d, t⟩ = funcT nm a b d ++ 10 :: nodeT row t := by
      unfold fnT
      dsimp only
      rw [byS_ofB]
    rw [(cutB_some hc).1, funcN_some hf, List.flatMap_cons, e4, List.append_assoc, List.append_assoc, List.cons_append, ← e1, ← e3]
theorem countN_some {l : List UInt8} {n : Nat} (h : countN l = some n) : l = unitP ++ Lib.itoa n ∧ 1 ≤ n ∧ n ≤ 4096 := by
  unfold countN at h
  split at h
  · cases h
  rename_i w hp
  split at h
  · cases h
  rename_i m hm
  split at h
  · rename_i hb
    cases h
    refine ⟨?_, by omega, by omega⟩
    rw [show ((m.toNat : Nat) : Int) = m by omega, (numB_some hm).2]
    exact pre_some hp
  · cases h
theorem unit_text (hR : RowOp row opOf) {right : List FnP → Bool} {s : List UInt8} {fs : List FnP} (h : unitR opOf right s = .ok fs) : s = unitT row fs ∧ right fs = true := by
  unfold unitR at h
  split at h
  · cases h
  split at h
  · cases h
  rename_i l r hc
  split at h
  · cases h
  rename_i c hn
  split at h
  · cases h
  rename_i fs' r' k hf
  split at h
  · rename_i hr
    split at h
    · rename_i hg
      cases h
      obtain ⟨e1, e2⟩ := funcs_text hR _ _ _ _ _ _ _ hf
      obtain ⟨e3, _⟩ := countN_some hn
      refine ⟨?_, hg⟩
      unfold unitT
      rw [(cutB_some hc).1, e3, e1, e2, hr, List.append_nil]
    · cases h
  · cases h
mutual
theorem nf_len : ∀ t : T, 1 + nf t ≤ (nodeT row t).length
  | .mk op a n m s kids => by
    have h := kf_len kids
    simp only [nf, nodeT]
    unfold lineT quoteB
    simp only [List.length_append, List.length_cons]
    omega
theorem kf_len : ∀ ts : List T, kf ts ≤ 1 + (kidsT row ts).length
  | [] => by simp [kf]
  | t :: ts => by
    have h1 := nf_len t
    have h2 := kf_len ts
    simp only [kf, kidsT, List.length_append]
    omega
end
def stripF (f : FnP) : FnP := { f with body := strip f.body }
def OkF (row : Int → List UInt8 × List UInt8) (f : FnP) : Prop := OkT row 1 f.body ∧ f.name.size ≤ 65536 ∧ (-9007199254740992 ≤ f.kind ∧ f.kind ≤ 9007199254740992) ∧ (-9007199254740992 ≤ f.len ∧ f.len ≤ 9007199254740992) ∧ (-9007199254740992 ≤ f.loc ∧ f.loc ≤ 9007199254740992)
theorem funcs_back (hR : RowOp row opOf) (g : Nat) (r : List UInt8) : ∀ (fs : List FnP) (k : Int), (∀ f ∈ fs, OkF row f) → (fs.flatMap (fnT row)).length ≤ g → ∃ k', funcsR opOf g fs.length k (fs.flatMap (fnT row) ++ r) = .ok (fs.map stripF, r, k')
  | [], k, _, _ => ⟨k, by simp [funcsR]⟩
  | f :: fs, k, hf, hg => by
    obtain ⟨h1, h2, h3, h4, h5⟩ := hf f (List.mem_cons_self ..)
    rw [List.flatMap_cons, List.length_append] at hg
    have hn := nf_len (row := row) f.body
    have hl : (nodeT row f.body).length ≤ (fnT row f).length := by
      unfold fnT
      simp only [List.length_append, List.length_cons]
      omega
    obtain ⟨k1, e1⟩ := back hR f.body 1 h1 g (k + 1) (fs.flatMap (fnT row) ++ r) (by omega)
    obtain ⟨k2, e2⟩ := funcs_back hR g r fs k1 (fun x hx => hf x (List.mem_cons_of_mem _ hx)) (by omega)
    refine ⟨k2, ?_⟩
    rw [List.length_cons, List.flatMap_cons, List.append_assoc]
    unfold funcsR
    have hcut : cutB 10 (fnT row f ++ (fs.flatMap (fnT row) ++ r)) = some (funcT (byS f.name) f.kind f.len f.loc, nodeT row f.body ++ (fs.flatMap (fnT row) ++ r)) := by
      unfold fnT
      rw [List.append_assoc, List.cons_append]
      exact cutB_app (funcT_fr _ _ _ _)
    rw [hcut]
    dsimp only
    rw [funcN_line (by rw [byS_size]; exact h2) h3 h4 h5]
    dsimp only
    rw [e1]
    dsimp only
    rw [e2]
    dsimp only
    rw [ofB_byS, List.map_cons]
    rfl
theorem unit_back (hR : RowOp row opOf) {right : List FnP → Bool} {fs : List FnP} (hok : ∀ f ∈ fs, OkF row f) (hn : 1 ≤ fs.length ∧ fs.length ≤ 4096) (hr : right (fs.map stripF) = true) (hl : (unitT row fs).length ≤ 1048576) : unitR opOf right (unitT row fs) = .ok (fs.map stripF) := by
  unfold unitR
  rw [if_neg (by omega)]
  have hfr : Fr 10 (unitP ++ Lib.itoa fs.length) := fr_app (by unfold Fr unitP; decide +kernel) (itoa_fr _ (by decide))
  have hc : cutB 10 (unitT row fs) = some (unitP ++ Lib.itoa fs.length, fs.flatMap (fnT row)) := cutB_app hfr
  have hcn : countN (unitP ++ Lib.itoa fs.length) = some fs.length := by
    unfold countN
    rw [pre_app]
    dsimp only
    rw [numB_itoa ⟨by omega, by omega⟩]
    dsimp only
    rw [if_pos ⟨by omega, by omega⟩]
    simp
  have hle : (fs.flatMap (fnT row)).length ≤ (unitT row fs).length := by
    unfold unitT
    simp only [List.length_append, List.length_cons]
    omega
  obtain ⟨k, e⟩ := funcs_back hR (2 * (unitT row fs).length + 4) [] fs 1 hok (by omega)
  rw [List.append_nil] at e
  rw [hc]
  dsimp only
  rw [hcn]
  dsimp only
  rw [e]
  dsimp only
  rw [if_pos rfl, if_pos hr]
end
end
section
open Go Go.Proofs.YtoclmkdfcafhfaaGreatDoor.Ou
def fnsOf (fs : List FnP) : Fns := fs.map fun f => (f.kind, f.loc)
def startC (n : Nat) : CkS := ⟨List.replicate n false, List.replicate n [], []⟩
def headB (fs : List FnP) : Bool := inI fs.length 1 4096 && (fs.all (fun f => decide (f.name.size ≤ 65536) && (inI f.kind 0 255 && (inI f.len 0 1024 && inI f.loc 0 4096))) && !genB (fs.head?.map (·.kind) |>.getD 0))
def rightU (row : Int → List UInt8 × List UInt8) (fs : List FnP) : Bool := headB fs && allF row (fnsOf fs) (fs.map (·.body)) (List.range fs.length) (startC fs.length)
section
variable {row : Int → List UInt8 × List UInt8} {fs : Fns}
theorem strip_kids : ∀ ts : List T, (stripL ts).map T.op = ts.map T.op
  | [] => rfl
  | .mk _ _ _ _ _ _ :: ts => by
    simp only [stripL, List.map_cons, strip_kids ts]
    rfl
theorem strip_op (t : T) : (strip t).op = t.op := by cases t; rfl
theorem shape_strip (t : T) (f deep : Int) : shapeB row fs (strip t) f deep = shapeB row fs t f deep := by
  cases t with
  | mk op a n m s kids =>
    simp only [strip]
    unfold shapeB
    simp only [T.kids, T.op, T.n, T.m, T.s, strip_kids]
mutual
theorem node_strip : ∀ (t : T) (f : Int) (p : PlP) (deep : Int) (c : CkS), nodeF row fs f (strip t) p deep c = nodeF row fs f t p deep c
  | .mk op a n m s kids, f, p, deep, c => by
    have h := shape_strip (row := row) (fs := fs) (.mk op a n m s kids) f deep
    simp only [strip] at h ⊢
    simp only [nodeF]
    rw [h]
    simp only [kids_strip kids]
theorem kids_strip : ∀ (ts : List T) (f : Int) (op n m : Int) (p : PlP) (deep : Int) (i : Nat) (c : CkS), kidsF row fs f op n m p deep (stripL ts) i c = kidsF row fs f op n m p deep ts i c
  | [], _, _, _, _, _, _, _, _ => rfl
  | t :: ts, f, op, n, m, p, deep, i, c => by
    simp only [stripL, kidsF]
    rw [node_strip t]
    simp only [kids_strip ts]
end
theorem getD_strip (ts : List T) (k : Nat) : (ts.map strip).getD k (.mk 0 0 0 0 ⟨#[]⟩ []) = strip (ts.getD k (.mk 0 0 0 0 ⟨#[]⟩ [])) := by
  rw [List.getD_eq_getElem?_getD, List.getD_eq_getElem?_getD, List.getElem?_map]
  cases ts[k]? with
  | none => rfl
  | some t => rfl
theorem queue_strip (ts : List T) : ∀ (g : Nat) (c : CkS), queueF row fs (ts.map strip) g c = queueF row fs ts g c
  | 0, _ => rfl
  | g + 1, c => by
    unfold queueF
    cases c.next with
    | nil => rfl
    | cons f r =>
      dsimp only
      rw [getD_strip, strip_op, node_strip]
      simp only [queue_strip ts g]
theorem from_strip (ts : List T) (f : Nat) (c : CkS) : fromF row fs (ts.map strip) f c = fromF row fs ts f c := by
  unfold fromF
  rw [queue_strip, List.length_map]
theorem all_strip (ts : List T) : ∀ (l : List Nat) (c : CkS), allF row fs (ts.map strip) l c = allF row fs ts l c
  | [], _ => rfl
  | f :: r, c => by
    unfold allF
    rw [from_strip]
    simp only [all_strip ts r]
end
theorem right_strip (row : Int → List UInt8 × List UInt8) (fs : List FnP) : rightU row (fs.map stripF) = rightU row fs := by
  unfold rightU
  have h1 : headB (fs.map stripF) = headB fs := by
    unfold headB
    rw [List.length_map, List.all_map, List.head?_map, Option.map_map]
    rfl
  have h2 : fnsOf (fs.map stripF) = fnsOf fs := by
    unfold fnsOf
    rw [List.map_map]
    rfl
  have h3 : (fs.map stripF).map (·.body) = (fs.map (·.body)).map strip := by
    rw [List.map_map, List.map_map]
    rfl
  rw [h1, h2, h3, all_strip, List.length_map]
mutual
def SzT : T → Prop
  | .mk _ _ _ _ s kids => kids.length ≤ 1048576 ∧ s.size ≤ 65536 ∧ SzL kids
def SzL : List T → Prop
  | [] => True
  | k :: r => SzT k ∧ SzL r
end
def Small (l : List Int) : Prop := ∀ x ∈ l, 0 ≤ x ∧ x ≤ 4096
def cnt (l : List Bool) : Nat := l.count true
def PlOk (p : PlP) (deep : Int) (k : Nat) : Prop := (p.slots.length : Int) + 1 ≤ 2048 * k + deep ∧ Small p.slots ∧ Small p.breaks ∧ Small p.agains
def CkOk (c : CkS) (funcs : Nat) : Prop := c.met.length = funcs ∧ ∀ l ∈ c.slots, l.length ≤ 2048 * cnt c.met ∧ Small l
theorem cnt_set {l : List Bool} {k : Nat} (hk : k < l.length) (h : ¬ l.getD k false = true) : cnt (l.set k true) = cnt l + 1 := by
  induction l generalizing k with
  | nil => simp at hk
  | cons x r ih =>
    cases k with
    | zero =>
      have hx : x = false := by simpa using h
      subst hx
      simp [cnt]
    | succ k =>
      have := ih (k := k) (by simpa using hk) (by simpa using h)
      unfold cnt at this ⊢
      rw [List.set_cons_succ, List.count_cons, List.count_cons, this]
      omega
theorem cnt_le (l : List Bool) : cnt l ≤ l.length := List.count_le_length
theorem inI_t {n lo hi : Int} (h : inI n lo hi = true) : lo ≤ n ∧ n ≤ hi := by
  unfold inI at h
  simpa using h
theorem small_getD {l : List Int} (h : Small l) (k : Nat) : l.getD k 0 ≤ 4096 := by
  rw [List.getD_eq_getElem?_getD]
  cases hk : l[k]? with
  | none => simp
  | some x => exact (h x (List.mem_of_getElem? hk)).2
theorem stands_ok {fs : Fns} {f op n m : Int} {p : PlP} {c : CkS} {deep : Int} (hc : CkOk c fs.length) (hp : PlOk p deep (cnt c.met)) (hd : deep ≤ 2048) (hn : numbB op n (locOf fs f) fs.length = true) : CkOk (standsF fs f op n m p c).1 fs.length ∧ cnt c.met ≤ cnt (standsF fs f op n m p c).1.met := by
  unfold standsF
  split
  · exact ⟨hc, Nat.le_refl _⟩
  split
  · rename_i h119
    dsimp only
    split
    · exact ⟨hc, Nat.le_refl _⟩
    · rename_i hmet
      have hr : 1 ≤ n ∧ n ≤ (fs.length : Int) - 1 := by
        subst h119
        simp [numbB] at hn
        exact inI_t hn
      have hlt : n.toNat < c.met.length := by rw [hc.1]; omega
      have hcs := cnt_set hlt hmet
      refine ⟨⟨by rw [List.length_set]; exact hc.1, fun l hl => ?_⟩, by dsimp only; omega⟩
      dsimp only at hl ⊢
      rw [hcs]
      rcases List.mem_or_eq_of_mem_set hl with h | h
      · have := hc.2 l h
        exact ⟨by omega, this.2⟩
      · subst h
        have := hp.1
        exact ⟨by omega, hp.2.1⟩
  split
  · exact ⟨hc, Nat.le_refl _⟩
  split
  · exact ⟨hc, Nat.le_refl _⟩
  split
  · exact ⟨hc, Nat.le_refl _⟩
  split
  · exact ⟨hc, Nat.le_refl _⟩
  · exact ⟨hc, Nat.le_refl _⟩
theorem stands_n {fs : Fns} {f op n m : Int} {p : PlP} {c : CkS} {deep : Int} {k : Nat} (hp : PlOk p deep k) (hsl : (p.slots.length : Int) ≤ 9000000000) (hloc : locOf fs f ≤ 4096) (hfs : fs.length ≤ 4096) (hn : numbB op n (locOf fs f) fs.length = true) (hm : moreB op m = true) (hs : (standsF fs f op n m p c).2 = true) :
    (-9007199254740992 ≤ n ∧ n ≤ 9007199254740992) ∧ (-9007199254740992 ≤ m ∧ m ≤ 9007199254740992) := by
  unfold numbB at hn
  unfold moreB at hm
  unfold standsF at hs
  by_cases h1 : op = 109 ∨ op = 110
  · rw [if_pos h1] at hs
    simp only [Bool.and_eq_true] at hs
    have a := inI_t hs.1
    have b := inI_t hs.2
    have d := small_getD hp.2.1 n.toNat
    omega
  rw [if_neg h1] at hs hm
  have hmm : -9007199254740992 ≤ m ∧ m ≤ 9007199254740992 := by
    split at hm
    · have := inI_t hm; omega
    split at hm
    · have := inI_t hm; omega
    · simp at hm; omega
  refine ⟨?_, hmm⟩
  by_cases h2 : op = 165
  · subst h2
    simp at hs
    have := hp.2.2.1 n (by simpa using hs)
    omega
  by_cases h3 : op = 166
  · subst h3
    simp at hs
    have := hp.2.2.2 n (by simpa using hs)
    omega
  split at hn
  · have := inI_t hn; omega
  split at hn
  · have := inI_t hn; omega
  split at hn
  · have := inI_t hn; omega
  split at hn
  · rename_i h
    exfalso
    rcases h with h | h | h | h
    · exact h1 (.inl h)
    · exact h1 (.inr h)
    · exact h2 h
    · exact h3 h
  split at hn
  · have := inI_t hn; omega
  split at hn
  · have := inI_t hn; omega
  split at hn
  · have := inI_t hn; omega
  split at hn
  · have := inI_t hn; omega
  split at hn
  · have := inI_t hn; omega
  · simp at hn; omega
theorem small_app {l : List Int} {x : Int} (h : Small l) (hx : 0 ≤ x ∧ x ≤ 4096) : Small (l ++ [x]) := fun y hy => by
  rcases List.mem_append.1 hy with hy | hy
  · exact h y hy
  · rw [List.mem_singleton.1 hy]; exact hx
theorem small_cons {l : List Int} {x : Int} (h : Small l) (hx : 0 ≤ x ∧ x ≤ 4096) : Small (x :: l) := fun y hy => by
  rcases List.mem_cons.1 hy with rfl | hy
  · exact hx
  · exact h y hy
theorem numb_163 {op n loc funcs : Int} (h : op = 163 ∨ op = 164 ∨ op = 170) (hn : numbB op n loc funcs = true) : 0 ≤ n ∧ n ≤ 4096 := by
  rcases h with rfl | rfl | rfl <;> simp [numbB] at hn <;> exact inI_t hn
theorem more_163 {m : Int} (hm : moreB 163 m = true) : 0 ≤ m ∧ m ≤ 4096 := by
  simp [moreB] at hm
  exact inI_t hm
theorem inside_ok {fs : Fns} {f op n : Int} {p : PlP} {deep : Int} {k : Nat} (hp : PlOk p deep k) (hn : numbB op n (locOf fs f) fs.length = true) : PlOk (inside op n p) (deep + 1) k := by
  obtain ⟨h1, h2, h3, h4⟩ := hp
  unfold inside
  split
  · rename_i h
    exact ⟨by dsimp only; omega, h2, small_app h3 (numb_163 (.inr (.inl h)) hn), h4⟩
  split
  · rename_i h
    exact ⟨by simp only [List.length_cons]; omega, small_cons h2 (numb_163 (.inr (.inr h)) hn), h3, h4⟩
  · exact ⟨by omega, h2, h3, h4⟩
theorem atKid_ok {fs : Fns} {f op n m : Int} {p : PlP} {deep : Int} {k i : Nat} (hp : PlOk p deep k) (hn : numbB op n (locOf fs f) fs.length = true) (hm : moreB op m = true) : PlOk (atKid op n m p i) deep k := by
  obtain ⟨h1, h2, h3, h4⟩ := hp
  unfold atKid
  split
  · rename_i h
    obtain ⟨rfl, _⟩ := h
    exact ⟨h1, h2, small_app h3 (numb_163 (.inl rfl) hn), small_app h4 (more_163 hm)⟩
  · exact ⟨h1, h2, h3, h4⟩
theorem PlOk.up {p : PlP} {deep : Int} {k k' : Nat} (h : PlOk p deep k) (hk : k ≤ k') : PlOk p deep k' := ⟨by have := h.1; omega, h.2⟩
section
variable {row : Int → List UInt8 × List UInt8} {fs : Fns}
theorem shape_parts {op a n m : Int} {s : ByteArray} {kids : List T} {f deep : Int} (h : shapeB row fs (.mk op a n m s kids) f deep = true) :
    deep ≤ 2048 ∧ (row op).1 ≠ [] ∧ moreB op m = true ∧ numbB op n (locOf fs f) fs.length = true := by
  unfold shapeB at h
  simp only [T.op, T.n, T.m, T.s, T.kids, Bool.and_eq_true, decide_eq_true_eq, Bool.not_eq_true'] at h
  refine ⟨h.1, fun e => ?_, h.2.2.2.2.1, h.2.2.2.2.2.1⟩
  have := h.2.1
  rw [e] at this
  cases this
mutual
theorem node_ok (hfs : fs.length ≤ 4096) (hloc : ∀ f, locOf fs f ≤ 4096) : ∀ (t : T) (f : Int) (p : PlP) (deep : Int) (c c' : CkS), CkOk c fs.length → PlOk p deep (cnt c.met) → SzT t → nodeF row fs f t p deep c = (c', true) → OkT row deep t ∧ CkOk c' fs.length ∧ cnt c.met ≤ cnt c'.met
  | .mk op a n m s kids, f, p, deep, c, c', hc, hp, hz, h => by
    simp only [nodeF] at h
    simp only [SzT] at hz
    split at h
    · rename_i hsh
      obtain ⟨s1, s2, s3, s4⟩ := shape_parts hsh
      split at h
      · rename_i hst
        have hlen : (p.slots.length : Int) ≤ 9000000000 := by
          have h1 := hp.1
          have h2 := cnt_le c.met
          rw [hc.1] at h2
          omega
        obtain ⟨k1, k2⟩ := stands_ok (m := m) hc hp s1 s4
        obtain ⟨n1, n2⟩ := stands_n hp hlen (hloc f) hfs s4 s3 hst
        obtain ⟨e1, e2, e3⟩ := kids_ok hfs hloc kids f op n m (inside op n p) deep 0 _ c' k1 ((inside_ok hp s4).up k2) hz.2.2 s4 s3 h
        simp only [OkT]
        exact ⟨⟨s2, n1, n2, hz.1, hz.2.1, s1, e1⟩, e2, Nat.le_trans k2 e3⟩
      · cases h
    · cases h
theorem kids_ok (hfs : fs.length ≤ 4096) (hloc : ∀ f, locOf fs f ≤ 4096) : ∀ (ts : List T) (f op n m : Int) (p : PlP) (deep : Int) (i : Nat) (c c' : CkS), CkOk c fs.length → PlOk p (deep + 1) (cnt c.met) → SzL ts → numbB op n (locOf fs f) fs.length = true → moreB op m = true → kidsF row fs f op n m p deep ts i c = (c', true) → OkL row deep ts ∧ CkOk c' fs.length ∧ cnt c.met ≤ cnt c'.met
  | [], f, op, n, m, p, deep, i, c, c', hc, hp, hz, hn, hm, h => by
    simp only [kidsF] at h
    cases h
    simp only [OkL]
    exact ⟨trivial, hc, Nat.le_refl _⟩
  | t :: ts, f, op, n, m, p, deep, i, c, c', hc, hp, hz, hn, hm, h => by
    simp only [kidsF] at h
    simp only [SzL] at hz
    split at h
    · rename_i hq
      obtain ⟨e1, e2, e3⟩ := node_ok hfs hloc t f (atKid op n m p i) (deep + 1) c (nodeF row fs f t (atKid op n m p i) (deep + 1) c).1 hc (atKid_ok hp hn hm) hz.1 (by rw [← hq])
      obtain ⟨f1, f2, f3⟩ := kids_ok hfs hloc ts f op n m p deep (i + 1) _ c' e2 (hp.up e3) hz.2 hn hm h
      simp only [OkL]
      exact ⟨⟨e1, f1⟩, f2, Nat.le_trans e3 f3⟩
    · cases h
end
end
end
section
open Go Go.Proofs.YtoclmkdfcafhfaaGreatDoor.Ou
def Met (c : CkS) (k : Nat) : Prop := c.met.getD k false = true
def Gr (c c' : CkS) : Prop := (∀ k, Met c k → Met c' k) ∧ (∀ k, Met c' k → Met c k ∨ (k : Int) ∈ c'.next) ∧ (∀ x ∈ c.next, x ∈ c'.next) ∧ ∀ x ∈ c'.next, x ∈ c.next ∨ 0 ≤ x
theorem Gr.refl (c : CkS) : Gr c c := ⟨fun _ h => h, fun _ h => .inl h, fun _ h => h, fun _ h => .inl h⟩
theorem Gr.trans {a b c : CkS} (h : Gr a b) (k : Gr b c) : Gr a c := ⟨fun i hi => k.1 i (h.1 i hi), fun i hi => by
  rcases k.2.1 i hi with h1 | h1
  · rcases h.2.1 i h1 with h2 | h2
    · exact .inl h2
    · exact .inr (k.2.2.1 _ h2)
  · exact .inr h1, fun x hx => k.2.2.1 x (h.2.2.1 x hx), fun x hx => by
  rcases k.2.2.2 x hx with h1 | h1
  · exact h.2.2.2 x h1
  · exact .inr h1⟩
theorem getD_set {l : List Bool} {k j : Nat} : (l.set k true).getD j false = true ↔ (k = j ∧ k < l.length) ∨ l.getD j false = true := by
  rw [List.getD_eq_getElem?_getD, List.getD_eq_getElem?_getD, List.getElem?_set]
  by_cases h : k = j
  · subst h
    by_cases hk : k < l.length
    · simp [hk]
    · simp [hk]
  · simp [h]
section
variable {row : Int → List UInt8 × List UInt8} {fs : Fns}
theorem stands_gr (f op n m : Int) (p : PlP) (c : CkS) (hn : 0 ≤ n ∨ op ≠ 119) : Gr c (standsF fs f op n m p c).1 := by
  unfold standsF
  split
  · exact Gr.refl _
  split
  · rename_i h119
    dsimp only
    split
    · exact Gr.refl _
    · have hn0 : 0 ≤ n := hn.resolve_right (fun h => h h119)
      refine ⟨fun k hk => ?_, fun k hk => ?_, fun x hx => List.mem_append_left _ hx, fun x hx => ?_⟩
      · exact getD_set.2 (.inr hk)
      · rcases getD_set.1 hk with ⟨h1, _⟩ | h1
        · right
          have : (k : Int) = n := by omega
          rw [this]
          exact List.mem_append_right _ (List.mem_singleton.2 rfl)
        · exact .inl h1
      · rcases List.mem_append.1 hx with h1 | h1
        · exact .inl h1
        · rw [List.mem_singleton.1 h1]; exact .inr hn0
  split
  · exact Gr.refl _
  split
  · exact Gr.refl _
  split
  · exact Gr.refl _
  split
  · exact Gr.refl _
  · exact Gr.refl _
theorem numb_119 {op n loc funcs : Int} (h : numbB op n loc funcs = true) : 0 ≤ n ∨ op ≠ 119 := by
  by_cases ho : op = 119
  · subst ho
    simp [numbB] at h
    have := inI_t h
    exact .inl (by omega)
  · exact .inr ho
mutual
theorem node_gr : ∀ (t : T) (f : Int) (p : PlP) (deep : Int) (c : CkS), Gr c (nodeF row fs f t p deep c).1
  | .mk op a n m s kids, f, p, deep, c => by
    simp only [nodeF]
    split
    · rename_i hsh
      have hs := stands_gr (fs := fs) f op n m p c (numb_119 (shape_parts hsh).2.2.2)
      split
      · exact hs.trans (kids_gr kids f op n m _ deep 0 _)
      · exact hs
    · exact Gr.refl _
theorem kids_gr : ∀ (ts : List T) (f op n m : Int) (p : PlP) (deep : Int) (i : Nat) (c : CkS), Gr c (kidsF row fs f op n m p deep ts i c).1
  | [], _, _, _, _, _, _, _, _ => by
    simp only [kidsF]
    exact Gr.refl _
  | t :: ts, f, op, n, m, p, deep, i, c => by
    simp only [kidsF]
    have h := node_gr t f (atKid op n m p i) (deep + 1) c
    split
    · exact h.trans (kids_gr ts f op n m p deep (i + 1) _)
    · exact h
end
def Seen (row : Int → List UInt8 × List UInt8) (bodies : List T) (c : CkS) : Prop := ∀ k, Met c k → OkT row 1 (bodies.getD k (.mk 0 0 0 0 ⟨#[]⟩ [])) ∨ (k : Int) ∈ c.next
theorem ck_slots {c : CkS} {n : Nat} (hc : CkOk c n) (f : Nat) : PlOk ⟨c.slots.getD f [], [], [], false⟩ 1 (cnt c.met) := by
  have hl : (c.slots.getD f []).length ≤ 2048 * cnt c.met ∧ Small (c.slots.getD f []) := by
    rw [List.getD_eq_getElem?_getD]
    cases h : c.slots[f]? with
    | none => exact ⟨Nat.zero_le _, fun x hx => by simp at hx⟩
    | some l => exact hc.2 l (List.mem_of_getElem? h)
  exact ⟨by dsimp only; omega, hl.2, fun x hx => (by cases hx), fun x hx => (by cases hx)⟩
theorem queue_ok (hfs : fs.length ≤ 4096) (hloc : ∀ f, locOf fs f ≤ 4096) (bodies : List T) (hz : ∀ t ∈ bodies, SzT t) : ∀ (g : Nat) (c c' : CkS), CkOk c fs.length → Seen row bodies c → (∀ x ∈ c.next, 0 ≤ x) → queueF row fs bodies g c = (c', true) → CkOk c' fs.length ∧ Seen row bodies c' ∧ c'.next = [] ∧ (∀ k, Met c k → Met c' k)
  | 0, c, c', hc, hs, hx, h => by
    unfold queueF at h
    obtain ⟨rfl, h2⟩ := Prod.mk.inj h
    refine ⟨hc, hs, ?_, fun _ hk => hk⟩
    cases hn : c.next with
    | nil => rfl
    | cons x r => rw [hn] at h2; cases h2
  | g + 1, c, c', hc, hs, hx, h => by
    unfold queueF at h
    cases hn : c.next with
    | nil =>
      rw [hn] at h
      obtain ⟨rfl, _⟩ := Prod.mk.inj h
      exact ⟨hc, hs, hn, fun _ hk => hk⟩
    | cons f r =>
      rw [hn] at h
      dsimp only at h
      split at h
      · rename_i hd
        split at h
        · rename_i hq
          have hf0 : 0 ≤ f := hx f (by rw [hn]; exact List.mem_cons_self ..)
          have hzb : SzT (bodies.getD f.toNat (.mk 0 0 0 0 ⟨#[]⟩ [])) := by
            rw [List.getD_eq_getElem?_getD]
            cases hb : bodies[f.toNat]? with
            | none => simp [SzT, SzL, ByteArray.size]
            | some t => exact hz t (List.mem_of_getElem? hb)
          have hc1 : CkOk { c with next := r } fs.length := hc
          have hgr := node_gr (row := row) (fs := fs) (bodies.getD f.toNat (.mk 0 0 0 0 ⟨#[]⟩ [])) f ⟨c.slots.getD f.toNat [], [], [], false⟩ 1 { c with next := r }
          obtain ⟨e1, e2, _⟩ := node_ok hfs hloc _ f ⟨c.slots.getD f.toNat [], [], [], false⟩ 1 { c with next := r } (nodeF row fs f (bodies.getD f.toNat (.mk 0 0 0 0 ⟨#[]⟩ [])) ⟨c.slots.getD f.toNat [], [], [], false⟩ 1 { c with next := r }).1 hc1 (ck_slots hc f.toNat) hzb (by rw [← hq])
          generalize nodeF row fs f (bodies.getD f.toNat (.mk 0 0 0 0 ⟨#[]⟩ [])) ⟨c.slots.getD f.toNat [], [], [], false⟩ 1 { c with next := r } = q at hq hgr e2 h
          have hs1 : Seen row bodies q.1 := fun k hk => by
            rcases hgr.2.1 k hk with h1 | h1
            · rcases hs k h1 with h2 | h2
              · exact .inl h2
              · rw [hn] at h2
                rcases List.mem_cons.1 h2 with h3 | h3
                · left
                  rw [show k = f.toNat by omega]
                  exact e1
                · exact .inr (hgr.2.2.1 _ h3)
            · exact .inr h1
          have hx1 : ∀ x ∈ q.1.next, 0 ≤ x := fun x hxx => by
            rcases hgr.2.2.2 x hxx with h1 | h1
            · exact hx x (by rw [hn]; exact List.mem_cons_of_mem _ h1)
            · exact h1
          obtain ⟨a1, a2, a3, a4⟩ := queue_ok hfs hloc bodies hz g q.1 c' e2 hs1 hx1 h
          exact ⟨a1, a2, a3, fun k hk => a4 k (hgr.1 k hk)⟩
        · cases h
      · cases h
theorem all_ok (hfs : fs.length ≤ 4096) (hloc : ∀ f, locOf fs f ≤ 4096) (bodies : List T) (hz : ∀ t ∈ bodies, SzT t) : ∀ (l : List Nat) (c : CkS), (∀ f ∈ l, f < fs.length) → CkOk c fs.length → Seen row bodies c → c.next = [] → allF row fs bodies l c = true → ∀ f ∈ l, OkT row 1 (bodies.getD f (.mk 0 0 0 0 ⟨#[]⟩ []))
  | [], _, _, _, _, _, _ => fun f hf => by cases hf
  | f :: r, c, hl, hc, hs, hn, h => by
    unfold allF at h
    have hl2 : ∀ x ∈ r, x < fs.length := fun x hx => hl x (List.mem_cons_of_mem _ hx)
    split at h
    · rename_i hm
      have h1 : OkT row 1 (bodies.getD f (.mk 0 0 0 0 ⟨#[]⟩ [])) := by
        rcases hs f hm with h1 | h1
        · exact h1
        · rw [hn] at h1; cases h1
      have ih := all_ok hfs hloc bodies hz r c hl2 hc hs hn h
      intro x hx
      rcases List.mem_cons.1 hx with rfl | hx
      · exact h1
      · exact ih x hx
    · rename_i hm
      dsimp only at h
      split at h
      · rename_i hq
        unfold fromF at hq h
        have hlt : f < c.met.length := by rw [hc.1]; exact hl f (List.mem_cons_self ..)
        have hcs := cnt_set hlt hm
        have hc1 : CkOk { c with met := c.met.set f true, next := [(f : Int)] } fs.length := ⟨by rw [List.length_set]; exact hc.1, fun l hl' => by
          have := hc.2 l hl'
          dsimp only
          rw [hcs]
          exact ⟨by omega, this.2⟩⟩
        have hs1 : Seen row bodies { c with met := c.met.set f true, next := [(f : Int)] } := fun k hk => by
          rcases getD_set.1 hk with ⟨h1, _⟩ | h1
          · exact .inr (by rw [h1]; exact List.mem_singleton.2 rfl)
          · rcases hs k h1 with h2 | h2
            · exact .inl h2
            · rw [hn] at h2; cases h2
        obtain ⟨a1, a2, a3, a4⟩ := queue_ok hfs hloc bodies hz _ _ (queueF row fs bodies (bodies.length + 1) { c with met := c.met.set f true, next := [(f : Int)] }).1 hc1 hs1 (fun x hx => by rw [List.mem_singleton.1 hx]; omega) (Prod.ext rfl hq)
        have ih := all_ok hfs hloc bodies hz r _ hl2 a1 a2 a3 h
        have hmf := a4 f (getD_set.2 (.inl ⟨rfl, hlt⟩))
        intro x hx
        rcases List.mem_cons.1 hx with rfl | hx
        · rcases a2 x hmf with h1 | h1
          · exact h1
          · rw [a3] at h1; cases h1
        · exact ih x hx
      · cases h
end
theorem right_ok {row : Int → List UInt8 × List UInt8} {fs : List FnP} (hz : ∀ f ∈ fs, SzT f.body) (h : rightU row fs = true) : (∀ f ∈ fs, OkF row f) ∧ 1 ≤ fs.length ∧ fs.length ≤ 4096 := by
  unfold rightU headB at h
  simp only [Bool.and_eq_true, List.all_eq_true, decide_eq_true_eq] at h
  obtain ⟨⟨h1, h2, _⟩, h3⟩ := h
  have hlen := inI_t h1
  have hfl : (fnsOf fs).length = fs.length := by unfold fnsOf; rw [List.length_map]
  have hloc : ∀ f, locOf (fnsOf fs) f ≤ 4096 := fun f => by
    unfold locOf fnsOf
    rw [List.getD_eq_getElem?_getD, List.getElem?_map]
    cases hf : fs[f.toNat]? with
    | none => decide
    | some x =>
      have := inI_t (h2 x (List.mem_of_getElem? hf)).2.2.2
      exact this.2
  have hck : CkOk (startC fs.length) (fnsOf fs).length := ⟨by rw [hfl]; simp [startC], fun l hl => by
    have : l = [] := by simpa [startC] using List.eq_of_mem_replicate hl
    subst this
    exact ⟨Nat.zero_le _, fun x hx => by cases hx⟩⟩
  have hseen : Seen row (fs.map (·.body)) (startC fs.length) := fun k hk => by
    exfalso
    unfold Met startC at hk
    rw [List.getD_eq_getElem?_getD, List.getElem?_replicate] at hk
    split at hk <;> simp at hk
  have hall := all_ok (by rw [hfl]; omega) hloc (fs.map (·.body)) (fun t ht => by
    obtain ⟨f, hf, rfl⟩ := List.mem_map.1 ht
    exact hz f hf) (List.range fs.length) (startC fs.length) (fun f hf => by rw [hfl]; exact List.mem_range.1 hf) hck hseen rfl h3
  refine ⟨fun f hf => ?_, by omega, by omega⟩
  obtain ⟨i, hi⟩ := List.mem_iff_getElem?.1 hf
  have hilt := (List.getElem?_eq_some_iff.1 hi).1
  have hb := hall i (List.mem_range.2 hilt)
  rw [List.getD_eq_getElem?_getD, List.getElem?_map, hi] at hb
  obtain ⟨g1, g2, g3, g4⟩ := h2 f hf
  have i2 := inI_t g2
  have i3 := inI_t g3
  have i4 := inI_t g4
  exact ⟨hb, g1, ⟨by omega, by omega⟩, ⟨by omega, by omega⟩, ⟨by omega, by omega⟩⟩
end
section
open Go Go.Proofs.YtoclmkdfcafhfaaGreatDoor.Ou
def unmet (c : CkS) : Nat := c.met.count false
def meas (c : CkS) : Nat := unmet c + c.next.length
theorem count_set {l : List Bool} {k : Nat} (hk : k < l.length) (h : ¬ l.getD k false = true) : (l.set k true).count false + 1 = l.count false := by
  induction l generalizing k with
  | nil => simp at hk
  | cons x r ih =>
    cases k with
    | zero =>
      have hx : x = false := by simpa using h
      subst hx
      simp
    | succ k =>
      have := ih (k := k) (by simpa using hk) (by simpa using h)
      rw [List.set_cons_succ, List.count_cons, List.count_cons, ← this]
      omega
section
variable {row : Int → List UInt8 × List UInt8} {fs : Fns}
def SameLen (c c' : CkS) : Prop := c'.met.length = c.met.length ∧ c'.slots.length = c.slots.length ∧ meas c' = meas c
theorem SameLen.refl (c : CkS) : SameLen c c := ⟨rfl, rfl, rfl⟩
theorem SameLen.trans {a b c : CkS} (h : SameLen a b) (k : SameLen b c) : SameLen a c := ⟨k.1.trans h.1, k.2.1.trans h.2.1, k.2.2.trans h.2.2⟩
theorem stands_len (f op n m : Int) (p : PlP) (c : CkS) (hl : c.met.length = fs.length) (hn : numbB op n (locOf fs f) fs.length = true) : SameLen c (standsF fs f op n m p c).1 := by
  unfold standsF
  split
  · exact SameLen.refl _
  split
  · rename_i h119
    dsimp only
    split
    · exact SameLen.refl _
    · rename_i hmet
      have hr : 1 ≤ n ∧ n ≤ (fs.length : Int) - 1 := by
        subst h119
        simp [numbB] at hn
        exact inI_t hn
      have hc := count_set (k := n.toNat) (by rw [hl]; omega) hmet
      refine ⟨List.length_set, List.length_set, ?_⟩
      unfold meas unmet
      simp only [List.length_append, List.length_cons, List.length_nil]
      omega
  split
  · exact SameLen.refl _
  split
  · exact SameLen.refl _
  split
  · exact SameLen.refl _
  split
  · exact SameLen.refl _
  · exact SameLen.refl _
mutual
theorem node_len : ∀ (t : T) (f : Int) (p : PlP) (deep : Int) (c : CkS), c.met.length = fs.length → SameLen c (nodeF row fs f t p deep c).1
  | .mk op a n m s kids, f, p, deep, c, hl => by
    simp only [nodeF]
    split
    · rename_i hsh
      have hs := stands_len f op n m p c hl (shape_parts hsh).2.2.2
      split
      · exact hs.trans (kids_len kids f op n m _ deep 0 _ (hs.1.trans hl))
      · exact hs
    · exact SameLen.refl _
theorem kids_len : ∀ (ts : List T) (f op n m : Int) (p : PlP) (deep : Int) (i : Nat) (c : CkS), c.met.length = fs.length → SameLen c (kidsF row fs f op n m p deep ts i c).1
  | [], _, _, _, _, _, _, _, _, _ => by
    simp only [kidsF]
    exact SameLen.refl _
  | t :: ts, f, op, n, m, p, deep, i, c, hl => by
    simp only [kidsF]
    have h := node_len t f (atKid op n m p i) (deep + 1) c hl
    split
    · exact h.trans (kids_len ts f op n m p deep (i + 1) _ (h.1.trans hl))
    · exact h
end
end
end
section
open Go Go.Proofs.YtoclmkdfcafhfaaGreatDoor.Ou
theorem skip_word {x r : List UInt8} : ∀ {w : List UInt8}, Fr 32 w → (32 :: x) <:+: (w ++ 32 :: r) → (32 :: x) <:+: (32 :: r)
  | [], _, h => h
  | c :: w, hw, h => by
    rcases List.infix_cons_iff.1 h with h1 | h1
    · obtain ⟨t, ht⟩ := h1
      exact absurd (List.cons.inj ht).1 (fun e => hw (by rw [e]; exact List.mem_cons_self ..))
    · exact skip_word (fun hh => hw (List.mem_cons_of_mem _ hh)) h1
theorem among_iff {s : List UInt8} (hs : Fr 32 s) : ∀ {ws : List (List UInt8)}, (∀ w ∈ ws, Fr 32 w) → ((32 :: (s ++ [32])) <:+: (32 :: ws.flatMap (· ++ [32])) ↔ s ∈ ws)
  | [], _ => by
    constructor
    · intro h
      have := h.length_le
      simp at this
    · intro h; cases h
  | w :: ws, hw => by
    have hw1 := hw w (List.mem_cons_self ..)
    have ih := among_iff hs (ws := ws) (fun x hx => hw x (List.mem_cons_of_mem _ hx))
    rw [List.flatMap_cons, List.append_assoc, List.singleton_append]
    constructor
    · intro h
      rcases List.infix_cons_iff.1 h with h1 | h1
      · obtain ⟨t, ht⟩ := h1
        have h2 : (s ++ [32]) ++ t = _ := (List.cons.inj ht).2
        rw [List.append_assoc, List.singleton_append] at h2
        obtain ⟨e, _⟩ := cut_inj hs hw1 h2
        rw [e]
        exact List.mem_cons_self ..
      · exact List.mem_cons_of_mem _ (ih.1 (skip_word hw1 h1))
    · intro h
      rcases List.mem_cons.1 h with rfl | h
      · exact ⟨[], ws.flatMap (· ++ [32]), by simp⟩
      · obtain ⟨a, b, hab⟩ := ih.2 h
        refine ⟨32 :: w ++ a, b, ?_⟩
        rw [← hab]
        simp
theorem among_eq {ws : List (List UInt8)} (hw : ∀ w ∈ ws, Fr 32 w) (hn : [] ∉ ws) (s : List UInt8) : (s ≠ [] ∧ (32 : UInt8) ∉ s ∧ (32 :: (s ++ [32])) <:+: (32 :: ws.flatMap (· ++ [32]))) ↔ ws.contains s = true := by
  rw [List.contains_iff_mem]
  constructor
  · rintro ⟨_, h2, h3⟩
    exact (among_iff h2 hw).1 h3
  · intro h
    have hf := hw s h
    exact ⟨fun e => hn (by rw [← e]; exact h), hf, (among_iff hf hw).2 h⟩
theorem index_infix : ∀ (s sub : List UInt8), 0 ≤ Lib.index s sub ↔ sub <:+: s
  | [], sub => by
    cases sub with
    | nil => simp [Lib.index]
    | cons a t => simp [Lib.index]
  | b :: l, sub => by
    have ih := index_infix l sub
    have hge := Lib.index_ge l sub
    have hstep : Lib.index (b :: l) sub = if sub.isPrefixOf (b :: l) then 0 else if Lib.index l sub == -1 then -1 else Lib.index l sub + 1 := rfl
    rw [List.infix_cons_iff, ← ih, hstep]
    by_cases h : sub.isPrefixOf (b :: l) = true
    · rw [if_pos h]
      exact ⟨fun _ => .inl (List.isPrefixOf_iff_prefix.1 h), fun _ => by simp⟩
    · rw [if_neg h]
      have hp : ¬ sub <+: b :: l := fun hh => h (List.isPrefixOf_iff_prefix.2 hh)
      by_cases h1 : Lib.index l sub = -1
      · rw [h1, if_pos (by rfl)]
        exact ⟨fun hh => absurd hh (by decide), fun hh => absurd (hh.resolve_left hp) (by decide)⟩
      · rw [if_neg (by rw [beq_iff_eq]; exact h1)]
        exact ⟨fun _ => .inr (by omega), fun hh => by have := hh.resolve_left hp; omega⟩
theorem contains_infix (s sub : List UInt8) : Lib.contains s sub = true ↔ sub <:+: s := by
  unfold Lib.contains
  rw [decide_eq_true_eq, index_infix]
end
end Go.Proofs.YtoclmkdfcafhfaaGreatDoor.Iq
namespace Go.Proofs.YtoclmkdfcafhfaaGreatDoor
open Go.RowKit Go.Vcg Ou
theorem tw_get {p : UInt8 → Bool} : ∀ (d : List UInt8) (j : Nat), j < (d.takeWhile p).length → ∃ c, d[j]? = some c ∧ p c = true
  | [], j, h => by simp at h
  | c :: r, j, h => by
    rw [List.takeWhile_cons] at h
    by_cases hc : p c = true
    · rw [if_pos hc] at h
      cases j with
      | zero => exact ⟨c, rfl, hc⟩
      | succ j => exact tw_get r j (by simpa using h)
    · rw [if_neg hc] at h; simp at h
theorem tw_end {p : UInt8 → Bool} : ∀ (d : List UInt8) (c : UInt8), d[(d.takeWhile p).length]? = some c → p c = false
  | [], c, h => by simp at h
  | x :: r, c, h => by
    rw [List.takeWhile_cons] at h
    by_cases hc : p x = true
    · rw [if_pos hc, List.length_cons, List.getElem?_cons_succ] at h
      exact tw_end r c h
    · rw [if_neg hc] at h
      simp at h
      rw [← h]
      simpa using hc
def nameF : List UInt8 → List UInt8
  | [] => []
  | c :: r => if Iq.idStart c = true then c :: r.takeWhile Iq.idPart else []
theorem tw_self (p : UInt8 → Bool) (l : List UInt8) : l.takeWhile p = l ↔ l.all p = true := by
  induction l with
  | nil => simp
  | cons a r ih => cases h : p a <;> simp [List.takeWhile_cons, h, ih]
theorem form_name (l : List UInt8) : Iq.formB l = decide (nameF l ≠ [] ∧ nameF l = l) := by
  cases l with
  | nil => rfl
  | cons c r =>
    unfold Iq.formB nameF
    dsimp only
    by_cases h : Iq.idStart c = true
    · simp only [h, if_true, Bool.true_and, ne_eq, reduceCtorEq, not_false_eq_true, true_and, List.cons.injEq]
      rw [Bool.eq_iff_iff, decide_eq_true_iff]
      exact (tw_self Iq.idPart r).symm
    · have h2 : Iq.idStart c = false := by simpa using h
      simp [h2]
attribute [local irreducible] G GC GQ GA GAop Calls IntKind.wrap Int.decLt Int.decLe
theorem letter_spec (x : Int) (c : UInt8) (hx : x = c.toNat) (w : World) (μ : Mem) (hμ : MOk μ w) : Calls Tryz.prog 169 #[.int .u8 x] w fun e w' => e = .returned (.bool (Iq.idStart c)) ∧ Below w.heap.size w w' := by
  subst hx
  have hc := c.toNat_lt
  refine call_intro (args := [.int .u8 c.toNat]) Tryz.func169 rfl Tryz.ntmps169 (by simp) hμ ?_
  have h0 : Iq.idStart c = decide ((97 ≤ (c.toNat : Int) ∧ (c.toNat : Int) ≤ 122) ∨ (65 ≤ (c.toNat : Int) ∧ (c.toNat : Int) ≤ 90) ∨ (c.toNat : Int) = 95 ∨ (c.toNat : Int) = 36) := by
    unfold Iq.idStart
    rw [Bool.eq_iff_iff]
    simp
    omega
  rw [h0]
  repeat' (first | refine KK ?_ | (refine KB ?_ ?_ <;> intro hp) | refine KG ?_ | fail)
  all_goals first | (exfalso; omega) | (refine ret_s rfl rfl ?_; congr 1; rw [Bool.eq_iff_iff]; simp; omega) | (refine ret_s rfl rfl ?_; congr 1; symm; rw [decide_eq_true_eq]; omega) | (refine ret_s rfl rfl ?_; congr 1; symm; rw [decide_eq_false_iff_not]; omega)
end Go.Proofs.YtoclmkdfcafhfaaGreatDoor
