/- What the functions that several laws reach compute, each by its code, against pure functions. Conditions: those that each theorem states. -/
import Derived.Test.YtpkdcjbkfkhgdaaGreatQH3
section
set_option linter.unusedSimpArgs false
namespace Go.H
open Go
def cpT : Dep → T → Prop
  | none, t => t.solid = true
  | some _, t => t.flat = true
def cpL (d : Dep) : List T → Prop
  | [] => True
  | t :: ts => cpT d t ∧ cpL d ts
theorem cpL_iff {d : Dep} : ∀ {r : List T}, cpL d r ↔ ∀ t ∈ r, cpT d t
  | [] => by simp [cpL]
  | t :: ts => by simp [cpL, cpL_iff (r := ts)]
theorem cpRows_cons (d : Dep) (r : List T) (rs : List (List T)) : cpRows d (r :: rs) = (cpL d r ∧ cpRows d rs) := by
  rw [eq_iff_iff, cpL_iff]
  cases d <;> simp [cpRows, cpT]
theorem cpRows_nil (d : Dep) : cpRows d [] = True := by
  cases d <;> simp [cpRows]
attribute [go_sem] cpRows_cons cpRows_nil cpL cpT T.solid T.flat
theorem cpRowsN_map {α : Type} (f : α → List T) (h : ∀ x, ∀ t ∈ f x, t.solid = true) (xs : List α) : cpRows none (xs.map f) = True := by
  rw [eq_iff_iff]
  unfold cpRows
  simp only [List.mem_map, iff_true]
  rintro r ⟨x, _, rfl⟩ t ht
  exact h x t ht
theorem getD_map_ {α : Type} (f : α → List T) (xs : List α) (i : Nat) (d : α) : (xs.map f).getD i (f d) = f (xs.getD i d) := by
  simp only [List.getD_eq_getElem?_getD, List.getElem?_map]
  cases xs[i]? <;> rfl
theorem noShR_map {α : Type} (f : α → List T) (h : ∀ x, T.noShL (f x)) (xs : List α) : T.noShR (xs.map f) = True := by
  rw [eq_iff_iff, T.noShR_iff]
  simp only [List.mem_map, forall_exists_index, and_imp, forall_apply_eq_imp_iff₂, h, implies_true]
theorem roRows_map {α : Type} (f g : α → List T) (h : ∀ x, (f x).map T.ro = g x) (xs : List α) : roRows (xs.map f) = xs.map g := by
  simp only [roRows, List.map_map]
  exact List.map_congr_left fun x _ => h x
theorem cpRows_map {α : Type} (f : α → List T) (h : ∀ x, ∀ t ∈ f x, t.flat = true) (d : Dep) (xs : List α) : cpRows d (xs.map f) = True := by
  rw [eq_iff_iff]
  unfold cpRows
  cases d
  · simp only [List.mem_map, iff_true]
    rintro r ⟨x, _, rfl⟩ t ht
    exact T.flat_solid (h x t ht)
  · simp only [List.mem_map, iff_true]
    rintro r ⟨x, _, rfl⟩ t ht
    exact h x t ht
def eI_i64 (n : Int) : List T := [.int .i64 n]
def zI_i64 : Int := 0
def dI_i64 : List T := eI_i64 zI_i64
theorem getD_I_i64 (xs : List Int) (i : Nat) : (xs.map eI_i64).getD i dI_i64 = eI_i64 (xs.getD i zI_i64) := getD_map_ ..
theorem shrR_I_i64 (xs : List Int) : T.shrR (xs.map eI_i64) = xs.map eI_i64 := T.shrR_map _ _ (fun _ => rfl) xs
theorem noShR_I_i64 (xs : List Int) : T.noShR (xs.map eI_i64) = True := noShR_map _ (fun _ => by simp [eI_i64, T.noShL, T.noSh]) xs
theorem roRows_I_i64 (xs : List Int) : roRows (xs.map eI_i64) = xs.map eI_i64 := roRows_map _ _ (fun _ => rfl) xs
theorem cpRows_I_i64 (d : Dep) (xs : List Int) : cpRows d (xs.map eI_i64) = True := cpRows_map _ (fun _ => by simp [eI_i64, T.flat]) d xs
attribute [go_sem] getD_I_i64 shrR_I_i64 noShR_I_i64 roRows_I_i64 cpRows_I_i64
theorem dropd_I_i64 : List.drop 1 dI_i64 = [] := rfl
theorem tm_I_i64 : tm dI_i64 = [.int .i64 0] := rfl
attribute [go_sem] dropd_I_i64 tm_I_i64
structure Cmd where
  kind : Int
  expect : Int
  name : Int
  addr : Int
  number : Int
  proto : Int
def eCmd (x : Cmd) : List T := [.int .i64 x.kind, .int .i64 x.expect, .int .i64 x.name, .int .i64 x.addr, .int .i64 x.number, .int .i64 x.proto]
def zCmd : Cmd := ⟨0, 0, 0, 0, 0, 0⟩
def dCmd : List T := eCmd zCmd
theorem getD_Cmd (xs : List Cmd) (i : Nat) : (xs.map eCmd).getD i dCmd = eCmd (xs.getD i zCmd) := getD_map_ ..
theorem shrR_Cmd (xs : List Cmd) : T.shrR (xs.map eCmd) = xs.map eCmd := T.shrR_map _ _ (fun _ => rfl) xs
theorem noShR_Cmd (xs : List Cmd) : T.noShR (xs.map eCmd) = True := noShR_map _ (fun _ => by simp [eCmd, T.noShL, T.noSh]) xs
theorem roRows_Cmd (xs : List Cmd) : roRows (xs.map eCmd) = xs.map eCmd := roRows_map _ _ (fun _ => rfl) xs
theorem cpRows_Cmd (d : Dep) (xs : List Cmd) : cpRows d (xs.map eCmd) = True := cpRows_map _ (fun _ => by simp [eCmd, T.flat]) d xs
attribute [go_sem] getD_Cmd shrR_Cmd noShR_Cmd roRows_Cmd cpRows_Cmd
theorem dropd_Cmd : List.drop 6 dCmd = [] := rfl
theorem tm_Cmd : tm dCmd = [.int .i64 0, .int .i64 0, .int .i64 0, .int .i64 0, .int .i64 0, .int .i64 0] := rfl
attribute [go_sem] dropd_Cmd tm_Cmd
structure Entry where
  term : Int
  client : Int
  seq : Int
  cmd : Cmd
def eEntry (x : Entry) : List T := [.int .i64 x.term, .int .i64 x.client, .int .i64 x.seq, .int .i64 x.cmd.kind, .int .i64 x.cmd.expect, .int .i64 x.cmd.name, .int .i64 x.cmd.addr, .int .i64 x.cmd.number, .int .i64 x.cmd.proto]
def zEntry : Entry := ⟨0, 0, 0, zCmd⟩
def dEntry : List T := eEntry zEntry
theorem getD_Entry (xs : List Entry) (i : Nat) : (xs.map eEntry).getD i dEntry = eEntry (xs.getD i zEntry) := getD_map_ ..
theorem shrR_Entry (xs : List Entry) : T.shrR (xs.map eEntry) = xs.map eEntry := T.shrR_map _ _ (fun _ => rfl) xs
theorem noShR_Entry (xs : List Entry) : T.noShR (xs.map eEntry) = True := noShR_map _ (fun _ => by simp [eEntry, T.noShL, T.noSh]) xs
theorem roRows_Entry (xs : List Entry) : roRows (xs.map eEntry) = xs.map eEntry := roRows_map _ _ (fun _ => rfl) xs
theorem cpRows_Entry (d : Dep) (xs : List Entry) : cpRows d (xs.map eEntry) = True := cpRows_map _ (fun _ => by simp [eEntry, T.flat]) d xs
attribute [go_sem] getD_Entry shrR_Entry noShR_Entry roRows_Entry cpRows_Entry
theorem dropd_Entry : List.drop 9 dEntry = [] := rfl
theorem tm_Entry : tm dEntry = [.int .i64 0, .int .i64 0, .int .i64 0, .int .i64 0, .int .i64 0, .int .i64 0, .int .i64 0, .int .i64 0, .int .i64 0] := rfl
attribute [go_sem] dropd_Entry tm_Entry
structure Node where
  id : Int
  peers : Int
  term : Int
  voted : Int
  log : List Entry
  role : Int
  commit : Int
  votes : List Int
  next : List Int
  match_ : List Int
def eNode (o : Bool) (x : Node) : List T := [.int .i64 x.id, .int .i64 x.peers, .int .i64 x.term, .int .i64 x.voted, .sl o 9 (x.log.map eEntry), .int .i64 x.role, .int .i64 x.commit, .sl o 1 (x.votes.map eI_i64), .sl o 1 (x.next.map eI_i64), .sl o 1 (x.match_.map eI_i64)]
def zNode : Node := ⟨0, 0, 0, 0, [], 0, 0, [], [], []⟩
def dNode (o : Bool) : List T := eNode o zNode
theorem getD_Node (o : Bool) (xs : List Node) (i : Nat) : (xs.map (eNode o)).getD i (dNode o) = eNode o (xs.getD i zNode) := getD_map_ ..
theorem shrR_Node (o : Bool) (xs : List Node) : T.shrR (xs.map (eNode o)) = xs.map (eNode false) := T.shrR_map _ _ (fun x => by simp only [eNode, T.shrL, T.shr, shrR_Entry, shrR_I_i64]) xs
theorem noShR_Node (xs : List Node) : T.noShR (xs.map (eNode true)) = True := noShR_map _ (fun _ => by simp [eNode, T.noShL, T.noSh, noShR_Entry, noShR_I_i64]) xs
theorem cpRows_Node (o : Bool) (xs : List Node) : cpRows none (xs.map (eNode o)) = True := cpRowsN_map _ (fun _ => by simp [eNode, T.solid]) xs
attribute [go_sem] getD_Node shrR_Node noShR_Node cpRows_Node
theorem dropd_Node (o : Bool) : List.drop 10 (dNode o) = [] := rfl
theorem tm_Node : tm (dNode true) = [.int .i64 0, .int .i64 0, .int .i64 0, .int .i64 0, .sl true 9 [], .int .i64 0, .int .i64 0, .sl true 1 [], .sl true 1 [], .sl true 1 []] := rfl
attribute [go_sem] dropd_Node tm_Node
def qNode (x : Node) : Prop := x.log.length ≤ 9223372036854775807 ∧ x.votes.length ≤ 9223372036854775807 ∧ x.next.length ≤ 9223372036854775807 ∧ x.match_.length ≤ 9223372036854775807
structure Mail where
  kind : Int
  from_ : Int
  to_ : Int
  term : Int
  index : Int
  last : Int
  commit : Int
  ok : Bool
  entries : List Entry
def eMail (o : Bool) (x : Mail) : List T := [.int .i64 x.kind, .int .i64 x.from_, .int .i64 x.to_, .int .i64 x.term, .int .i64 x.index, .int .i64 x.last, .int .i64 x.commit, .bool x.ok, .sl o 9 (x.entries.map eEntry)]
def zMail : Mail := ⟨0, 0, 0, 0, 0, 0, 0, false, []⟩
def dMail (o : Bool) : List T := eMail o zMail
theorem getD_Mail (o : Bool) (xs : List Mail) (i : Nat) : (xs.map (eMail o)).getD i (dMail o) = eMail o (xs.getD i zMail) := getD_map_ ..
theorem shrR_Mail (o : Bool) (xs : List Mail) : T.shrR (xs.map (eMail o)) = xs.map (eMail false) := T.shrR_map _ _ (fun x => by simp only [eMail, T.shrL, T.shr, shrR_Entry]) xs
theorem noShR_Mail (xs : List Mail) : T.noShR (xs.map (eMail true)) = True := noShR_map _ (fun _ => by simp [eMail, T.noShL, T.noSh, noShR_Entry]) xs
theorem cpRows_Mail (o : Bool) (xs : List Mail) : cpRows none (xs.map (eMail o)) = True := cpRowsN_map _ (fun _ => by simp [eMail, T.solid]) xs
attribute [go_sem] getD_Mail shrR_Mail noShR_Mail cpRows_Mail
theorem dropd_Mail (o : Bool) : List.drop 9 (dMail o) = [] := rfl
theorem tm_Mail : tm (dMail true) = [.int .i64 0, .int .i64 0, .int .i64 0, .int .i64 0, .int .i64 0, .int .i64 0, .int .i64 0, .bool false, .sl true 9 []] := rfl
attribute [go_sem] dropd_Mail tm_Mail
def qMail (x : Mail) : Prop := x.entries.length ≤ 9223372036854775807
structure Won where
  term : Int
  node : Int
def eWon (x : Won) : List T := [.int .i64 x.term, .int .i64 x.node]
def zWon : Won := ⟨0, 0⟩
def dWon : List T := eWon zWon
theorem getD_Won (xs : List Won) (i : Nat) : (xs.map eWon).getD i dWon = eWon (xs.getD i zWon) := getD_map_ ..
theorem shrR_Won (xs : List Won) : T.shrR (xs.map eWon) = xs.map eWon := T.shrR_map _ _ (fun _ => rfl) xs
theorem noShR_Won (xs : List Won) : T.noShR (xs.map eWon) = True := noShR_map _ (fun _ => by simp [eWon, T.noShL, T.noSh]) xs
theorem roRows_Won (xs : List Won) : roRows (xs.map eWon) = xs.map eWon := roRows_map _ _ (fun _ => rfl) xs
theorem cpRows_Won (d : Dep) (xs : List Won) : cpRows d (xs.map eWon) = True := cpRows_map _ (fun _ => by simp [eWon, T.flat]) d xs
attribute [go_sem] getD_Won shrR_Won noShR_Won roRows_Won cpRows_Won
theorem dropd_Won : List.drop 2 dWon = [] := rfl
theorem tm_Won : tm dWon = [.int .i64 0, .int .i64 0] := rfl
attribute [go_sem] dropd_Won tm_Won
structure Seal where
  term : Int
  entry : Entry
def eSeal (x : Seal) : List T := [.int .i64 x.term, .int .i64 x.entry.term, .int .i64 x.entry.client, .int .i64 x.entry.seq, .int .i64 x.entry.cmd.kind, .int .i64 x.entry.cmd.expect, .int .i64 x.entry.cmd.name, .int .i64 x.entry.cmd.addr, .int .i64 x.entry.cmd.number, .int .i64 x.entry.cmd.proto]
def zSeal : Seal := ⟨0, zEntry⟩
def dSeal : List T := eSeal zSeal
theorem getD_Seal (xs : List Seal) (i : Nat) : (xs.map eSeal).getD i dSeal = eSeal (xs.getD i zSeal) := getD_map_ ..
theorem shrR_Seal (xs : List Seal) : T.shrR (xs.map eSeal) = xs.map eSeal := T.shrR_map _ _ (fun _ => rfl) xs
theorem noShR_Seal (xs : List Seal) : T.noShR (xs.map eSeal) = True := noShR_map _ (fun _ => by simp [eSeal, T.noShL, T.noSh]) xs
theorem roRows_Seal (xs : List Seal) : roRows (xs.map eSeal) = xs.map eSeal := roRows_map _ _ (fun _ => rfl) xs
theorem cpRows_Seal (d : Dep) (xs : List Seal) : cpRows d (xs.map eSeal) = True := cpRows_map _ (fun _ => by simp [eSeal, T.flat]) d xs
attribute [go_sem] getD_Seal shrR_Seal noShR_Seal roRows_Seal cpRows_Seal
theorem dropd_Seal : List.drop 10 dSeal = [] := rfl
theorem tm_Seal : tm dSeal = [.int .i64 0, .int .i64 0, .int .i64 0, .int .i64 0, .int .i64 0, .int .i64 0, .int .i64 0, .int .i64 0, .int .i64 0, .int .i64 0] := rfl
attribute [go_sem] dropd_Seal tm_Seal
structure Cluster where
  nodes : List Node
  mails : List Mail
  wins : List Won
  seals : List Seal
def eCluster (o : Bool) (x : Cluster) : List T := [.sl o 10 (x.nodes.map (eNode o)), .sl o 9 (x.mails.map (eMail o)), .sl o 2 (x.wins.map eWon), .sl o 10 (x.seals.map eSeal)]
def zCluster : Cluster := ⟨[], [], [], []⟩
def dCluster (o : Bool) : List T := eCluster o zCluster
theorem getD_Cluster (o : Bool) (xs : List Cluster) (i : Nat) : (xs.map (eCluster o)).getD i (dCluster o) = eCluster o (xs.getD i zCluster) := getD_map_ ..
theorem shrR_Cluster (o : Bool) (xs : List Cluster) : T.shrR (xs.map (eCluster o)) = xs.map (eCluster false) := T.shrR_map _ _ (fun x => by simp only [eCluster, T.shrL, T.shr, shrR_Mail, shrR_Node, shrR_Seal, shrR_Won]) xs
theorem noShR_Cluster (xs : List Cluster) : T.noShR (xs.map (eCluster true)) = True := noShR_map _ (fun _ => by simp [eCluster, T.noShL, T.noSh, noShR_Mail, noShR_Node, noShR_Seal, noShR_Won]) xs
theorem cpRows_Cluster (o : Bool) (xs : List Cluster) : cpRows none (xs.map (eCluster o)) = True := cpRowsN_map _ (fun _ => by simp [eCluster, T.solid]) xs
attribute [go_sem] getD_Cluster shrR_Cluster noShR_Cluster cpRows_Cluster
theorem dropd_Cluster (o : Bool) : List.drop 4 (dCluster o) = [] := rfl
theorem tm_Cluster : tm (dCluster true) = [.sl true 10 [], .sl true 9 [], .sl true 2 [], .sl true 10 []] := rfl
attribute [go_sem] dropd_Cluster tm_Cluster
def qCluster (x : Cluster) : Prop := (x.nodes.length ≤ 9223372036854775807 ∧ ∀ y ∈ x.nodes, qNode y) ∧ (x.mails.length ≤ 9223372036854775807 ∧ ∀ y ∈ x.mails, qMail y) ∧ x.wins.length ≤ 9223372036854775807 ∧ x.seals.length ≤ 9223372036854775807
structure ClusterResult where
  code : Int
  cluster : Cluster
def eClusterResult (o : Bool) (x : ClusterResult) : List T := [.int .i64 x.code, .sl o 10 (x.cluster.nodes.map (eNode o)), .sl o 9 (x.cluster.mails.map (eMail o)), .sl o 2 (x.cluster.wins.map eWon), .sl o 10 (x.cluster.seals.map eSeal)]
def zClusterResult : ClusterResult := ⟨0, zCluster⟩
def dClusterResult (o : Bool) : List T := eClusterResult o zClusterResult
theorem getD_ClusterResult (o : Bool) (xs : List ClusterResult) (i : Nat) : (xs.map (eClusterResult o)).getD i (dClusterResult o) = eClusterResult o (xs.getD i zClusterResult) := getD_map_ ..
theorem shrR_ClusterResult (o : Bool) (xs : List ClusterResult) : T.shrR (xs.map (eClusterResult o)) = xs.map (eClusterResult false) := T.shrR_map _ _ (fun x => by simp only [eClusterResult, T.shrL, T.shr, shrR_Mail, shrR_Node, shrR_Seal, shrR_Won]) xs
theorem noShR_ClusterResult (xs : List ClusterResult) : T.noShR (xs.map (eClusterResult true)) = True := noShR_map _ (fun _ => by simp [eClusterResult, T.noShL, T.noSh, noShR_Mail, noShR_Node, noShR_Seal, noShR_Won]) xs
theorem cpRows_ClusterResult (o : Bool) (xs : List ClusterResult) : cpRows none (xs.map (eClusterResult o)) = True := cpRowsN_map _ (fun _ => by simp [eClusterResult, T.solid]) xs
attribute [go_sem] getD_ClusterResult shrR_ClusterResult noShR_ClusterResult cpRows_ClusterResult
theorem dropd_ClusterResult (o : Bool) : List.drop 5 (dClusterResult o) = [] := rfl
theorem tm_ClusterResult : tm (dClusterResult true) = [.int .i64 0, .sl true 10 [], .sl true 9 [], .sl true 2 [], .sl true 10 []] := rfl
attribute [go_sem] dropd_ClusterResult tm_ClusterResult
def qClusterResult (x : ClusterResult) : Prop := qCluster x.cluster
structure NodeResult where
  code : Int
  node : Node
  send : List Mail
def eNodeResult (o : Bool) (x : NodeResult) : List T := [.int .i64 x.code, .int .i64 x.node.id, .int .i64 x.node.peers, .int .i64 x.node.term, .int .i64 x.node.voted, .sl o 9 (x.node.log.map eEntry), .int .i64 x.node.role, .int .i64 x.node.commit, .sl o 1 (x.node.votes.map eI_i64), .sl o 1 (x.node.next.map eI_i64), .sl o 1 (x.node.match_.map eI_i64), .sl o 9 (x.send.map (eMail o))]
def zNodeResult : NodeResult := ⟨0, zNode, []⟩
def dNodeResult (o : Bool) : List T := eNodeResult o zNodeResult
theorem getD_NodeResult (o : Bool) (xs : List NodeResult) (i : Nat) : (xs.map (eNodeResult o)).getD i (dNodeResult o) = eNodeResult o (xs.getD i zNodeResult) := getD_map_ ..
theorem shrR_NodeResult (o : Bool) (xs : List NodeResult) : T.shrR (xs.map (eNodeResult o)) = xs.map (eNodeResult false) := T.shrR_map _ _ (fun x => by simp only [eNodeResult, T.shrL, T.shr, shrR_Entry, shrR_I_i64, shrR_Mail]) xs
theorem noShR_NodeResult (xs : List NodeResult) : T.noShR (xs.map (eNodeResult true)) = True := noShR_map _ (fun _ => by simp [eNodeResult, T.noShL, T.noSh, noShR_Entry, noShR_I_i64, noShR_Mail]) xs
theorem cpRows_NodeResult (o : Bool) (xs : List NodeResult) : cpRows none (xs.map (eNodeResult o)) = True := cpRowsN_map _ (fun _ => by simp [eNodeResult, T.solid]) xs
attribute [go_sem] getD_NodeResult shrR_NodeResult noShR_NodeResult cpRows_NodeResult
theorem dropd_NodeResult (o : Bool) : List.drop 12 (dNodeResult o) = [] := rfl
theorem tm_NodeResult : tm (dNodeResult true) = [.int .i64 0, .int .i64 0, .int .i64 0, .int .i64 0, .int .i64 0, .sl true 9 [], .int .i64 0, .int .i64 0, .sl true 1 [], .sl true 1 [], .sl true 1 [], .sl true 9 []] := rfl
attribute [go_sem] dropd_NodeResult tm_NodeResult
def qNodeResult (x : NodeResult) : Prop := qNode x.node ∧ (x.send.length ≤ 9223372036854775807 ∧ ∀ y ∈ x.send, qMail y)
structure EntriesResult where
  code : Int
  entries : List Entry
def eEntriesResult (o : Bool) (x : EntriesResult) : List T := [.int .i64 x.code, .sl o 9 (x.entries.map eEntry)]
def zEntriesResult : EntriesResult := ⟨0, []⟩
def dEntriesResult (o : Bool) : List T := eEntriesResult o zEntriesResult
theorem getD_EntriesResult (o : Bool) (xs : List EntriesResult) (i : Nat) : (xs.map (eEntriesResult o)).getD i (dEntriesResult o) = eEntriesResult o (xs.getD i zEntriesResult) := getD_map_ ..
theorem shrR_EntriesResult (o : Bool) (xs : List EntriesResult) : T.shrR (xs.map (eEntriesResult o)) = xs.map (eEntriesResult false) := T.shrR_map _ _ (fun x => by simp only [eEntriesResult, T.shrL, T.shr, shrR_Entry]) xs
theorem noShR_EntriesResult (xs : List EntriesResult) : T.noShR (xs.map (eEntriesResult true)) = True := noShR_map _ (fun _ => by simp [eEntriesResult, T.noShL, T.noSh, noShR_Entry]) xs
theorem cpRows_EntriesResult (o : Bool) (xs : List EntriesResult) : cpRows none (xs.map (eEntriesResult o)) = True := cpRowsN_map _ (fun _ => by simp [eEntriesResult, T.solid]) xs
attribute [go_sem] getD_EntriesResult shrR_EntriesResult noShR_EntriesResult cpRows_EntriesResult
theorem dropd_EntriesResult (o : Bool) : List.drop 2 (dEntriesResult o) = [] := rfl
theorem tm_EntriesResult : tm (dEntriesResult true) = [.int .i64 0, .sl true 9 []] := rfl
attribute [go_sem] dropd_EntriesResult tm_EntriesResult
def qEntriesResult (x : EntriesResult) : Prop := x.entries.length ≤ 9223372036854775807
structure IntResult where
  code : Int
  value : Int
def eIntResult (x : IntResult) : List T := [.int .i64 x.code, .int .i64 x.value]
def zIntResult : IntResult := ⟨0, 0⟩
def dIntResult : List T := eIntResult zIntResult
theorem getD_IntResult (xs : List IntResult) (i : Nat) : (xs.map eIntResult).getD i dIntResult = eIntResult (xs.getD i zIntResult) := getD_map_ ..
theorem shrR_IntResult (xs : List IntResult) : T.shrR (xs.map eIntResult) = xs.map eIntResult := T.shrR_map _ _ (fun _ => rfl) xs
theorem noShR_IntResult (xs : List IntResult) : T.noShR (xs.map eIntResult) = True := noShR_map _ (fun _ => by simp [eIntResult, T.noShL, T.noSh]) xs
theorem roRows_IntResult (xs : List IntResult) : roRows (xs.map eIntResult) = xs.map eIntResult := roRows_map _ _ (fun _ => rfl) xs
theorem cpRows_IntResult (d : Dep) (xs : List IntResult) : cpRows d (xs.map eIntResult) = True := cpRows_map _ (fun _ => by simp [eIntResult, T.flat]) d xs
attribute [go_sem] getD_IntResult shrR_IntResult noShR_IntResult roRows_IntResult cpRows_IntResult
theorem dropd_IntResult : List.drop 2 dIntResult = [] := rfl
theorem tm_IntResult : tm dIntResult = [.int .i64 0, .int .i64 0] := rfl
attribute [go_sem] dropd_IntResult tm_IntResult
def eI_u8 (n : Int) : List T := [.int .u8 n]
def zI_u8 : Int := 0
def dI_u8 : List T := eI_u8 zI_u8
theorem getD_I_u8 (xs : List Int) (i : Nat) : (xs.map eI_u8).getD i dI_u8 = eI_u8 (xs.getD i zI_u8) := getD_map_ ..
theorem shrR_I_u8 (xs : List Int) : T.shrR (xs.map eI_u8) = xs.map eI_u8 := T.shrR_map _ _ (fun _ => rfl) xs
theorem noShR_I_u8 (xs : List Int) : T.noShR (xs.map eI_u8) = True := noShR_map _ (fun _ => by simp [eI_u8, T.noShL, T.noSh]) xs
theorem roRows_I_u8 (xs : List Int) : roRows (xs.map eI_u8) = xs.map eI_u8 := roRows_map _ _ (fun _ => rfl) xs
theorem cpRows_I_u8 (d : Dep) (xs : List Int) : cpRows d (xs.map eI_u8) = True := cpRows_map _ (fun _ => by simp [eI_u8, T.flat]) d xs
attribute [go_sem] getD_I_u8 shrR_I_u8 noShR_I_u8 roRows_I_u8 cpRows_I_u8
theorem dropd_I_u8 : List.drop 1 dI_u8 = [] := rfl
theorem tm_I_u8 : tm dI_u8 = [.int .u8 0] := rfl
attribute [go_sem] dropd_I_u8 tm_I_u8
attribute [go_sem] eI_i64 eCluster eNode eEntry eCmd eMail eWon eSeal eClusterResult eNodeResult eEntriesResult eIntResult eI_u8
end Go.H
end
section
set_option linter.unusedVariables false
namespace Go.H
open Go
attribute [go_sem] V.scalar TV.noSh T.noSh T.noShL Ob.noSh V.zT liveV liveL verM capM TV.noShs Ob.noShs T.shr T.shrL roCs roC T.isOwn liveD List.take_length List.drop_zero List.take_zero List.map_nil
attribute [go_sem] decide_false Bool.or_false Bool.true_or Bool.or_true Bool.false_or Bool.and_false Int.natCast_add Int.natCast_one Int.cast_ofNat_Int Nat.add_zero
attribute [go_sem] List.length_map Int.toNat_natCast List.length_append List.length_take List.length_drop List.take_take Nat.min_self List.length_cons List.length_nil List.length_set List.length_replicate
theorem take_map' {α β : Type} (f : α → β) (l : List α) (i : Nat) : (l.map f).take i = (l.take i).map f := List.map_take.symm
theorem drop_map' {α β : Type} (f : α → β) (l : List α) (i : Nat) : (l.map f).drop i = (l.drop i).map f := List.map_drop.symm
theorem app_map' {α β : Type} (f : α → β) (l m : List α) : l.map f ++ m.map f = (l ++ m).map f := List.map_append.symm
attribute [go_sem] take_map' drop_map' app_map'
attribute [go_sem] reduceCtorEq Nat.reduceMod Nat.reduceEqDiff Nat.reduceAdd Nat.reduceMul Nat.reduceLeDiff Nat.reduceLT
theorem take_succ_map {α β : Type} (f : α → β) (d : α) {xs : List α} {i : Nat} (h : i < xs.length) : (xs.take (i + 1)).map f = (xs.take i).map f ++ [f (xs.getD i d)] := by
  rw [List.take_add_one, List.map_append, List.getD_eq_getElem?_getD, List.getElem?_eq_getElem h]
  rfl
def inR (a b c : Int) : Bool := decide (b ≤ a) && decide (a ≤ c)
attribute [go_sem] eqVL eqV
attribute [go_sem] T.noShR T.shrL T.shrR roCs roC cVcL Bool.cond_true_left Bool.cond_false_left Bool.cond_true_right Bool.not_eq_true' beq_false obM lkey obOk bne_self_eq_false beq_self_eq_true Bool.not_false ne_eq not_true_eq_false not_false_eq_true eq_self decide_not Bool.not_true
def aS (l : List T) : Arg := .agg (l.map C.t)
def aT (t : T) : Arg := .one (.t t)
def aI (n : Int) : Arg := .one (.t (.int .i64 n))
def rI (n : Int) : TV := .one (.int .i64 n)
def rB (b : Bool) : TV := .one (.bool b)
attribute [go_sem] aS aT aI rI rB okI
theorem drop_getD {α : Type} (d : α) {xs : List α} {i : Nat} (h : i < xs.length) : xs.drop i = xs.getD i d :: xs.drop (i + 1) := by
  rw [List.drop_eq_getElem_cons h, List.getD_eq_getElem?_getD, List.getElem?_eq_getElem h]
  rfl
theorem getD_set_self {α : Type} {l : List α} {i : Nat} (h : i < l.length) (r d : α) : (l.set i r).getD i d = r := by
  rw [List.getD_eq_getElem?_getD, List.getElem?_set_self h]
  rfl
theorem all_getD {α : Type} (d : α) {xs : List α} {p : α → Prop} : (∀ i < xs.length, p (xs.getD i d)) ↔ ∀ x ∈ xs, p x := by
  constructor
  · intro h x hx
    obtain ⟨i, hi, rfl⟩ := List.getElem_of_mem hx
    have := h i hi
    rwa [List.getD_eq_getElem?_getD, List.getElem?_eq_getElem hi] at this
  · intro h i hi
    rw [List.getD_eq_getElem?_getD, List.getElem?_eq_getElem hi]
    exact h _ (List.getElem_mem hi)
def szL (n : Nat) (l : Int) : Int := if l - n < 0 then -1 else l - n
def szT (l : Int) (k : Int → Int) : Int := if l < 0 then -1 else k l
def szNode (x : Node) (l : Int) : Int := szT (szL x.log.length l) fun l => szT (szL x.votes.length l) fun l => szT (szL x.next.length l) fun l => szT (szL x.match_.length l) fun l => l
def szMail (x : Mail) (l : Int) : Int := szT (szL x.entries.length l) fun l => l
def szNodes : List Node → Int → Int
  | [], l => l
  | x :: xs, l => szT (szNode x l) (szNodes xs)
def szMails : List Mail → Int → Int
  | [], l => l
  | x :: xs, l => szT (szMail x l) (szMails xs)
def szNs (xs : List Node) (l : Int) : Int := szT (szL xs.length l) (szNodes xs)
def szMs (xs : List Mail) (l : Int) : Int := szT (szL xs.length l) (szMails xs)
def szCluster (x : Cluster) (l : Int) : Int := szT (szNs x.nodes l) fun l => szT (szMs x.mails l) fun l => szT (szL x.wins.length l) fun l => szT (szL x.seals.length l) fun l => l
theorem szL_lo (n : Nat) (l : Int) : -1 ≤ szL n l := by unfold szL; split <;> omega
theorem szL_hi {n : Nat} {l b : Int} (h : l ≤ b) (hb : -1 ≤ b) : szL n l ≤ b := by unfold szL; split <;> omega
theorem szL_ge {n : Nat} {l : Int} (h : 0 ≤ szL n l) : szL n l = l - n ∧ n ≤ l := by
  unfold szL at *
  split at h
  · omega
  · rename_i h2
    rw [if_neg h2]
    omega
theorem szT_lo {l : Int} {k : Int → Int} (h : 0 ≤ l → -1 ≤ k l) : -1 ≤ szT l k := by unfold szT; split <;> first | omega | exact h (by omega)
theorem szT_hi {l b : Int} {k : Int → Int} (hb : -1 ≤ b) (h : k l ≤ b) : szT l k ≤ b := by unfold szT; split <;> first | omega | exact h
theorem szT_ge {l : Int} {k : Int → Int} (h : 0 ≤ szT l k) : 0 ≤ l ∧ 0 ≤ k l ∧ szT l k = k l := by
  unfold szT at *
  split at h
  · omega
  · rename_i h2
    rw [if_neg h2]
    omega
theorem szNode_lo (x : Node) (l : Int) (h : l ≤ 1048576) : -1 ≤ szNode x l ∧ szNode x l ≤ 1048576 :=
  ⟨szT_lo fun _ => szT_lo fun _ => szT_lo fun _ => szT_lo fun _ => szL_lo .., szT_hi (by omega) (szT_hi (by omega) (szT_hi (by omega) (szT_hi (by omega) (szL_hi (szL_hi (szL_hi (szL_hi h (by omega)) (by omega)) (by omega)) (by omega)))))⟩
theorem szMail_lo (x : Mail) (l : Int) (h : l ≤ 1048576) : -1 ≤ szMail x l ∧ szMail x l ≤ 1048576 :=
  ⟨szT_lo fun _ => szL_lo .., szT_hi (by omega) (szL_hi h (by omega))⟩
theorem szNodes_lo : ∀ (xs : List Node) (l : Int), -1 ≤ l → l ≤ 1048576 → -1 ≤ szNodes xs l ∧ szNodes xs l ≤ 1048576
  | [], l, h1, h2 => ⟨h1, h2⟩
  | x :: xs, l, h1, h2 => by
    have := szNode_lo x l h2
    have h3 := szNodes_lo xs (szNode x l) this.1 this.2
    exact ⟨szT_lo fun _ => h3.1, szT_hi (by omega) h3.2⟩
theorem szMails_lo : ∀ (xs : List Mail) (l : Int), -1 ≤ l → l ≤ 1048576 → -1 ≤ szMails xs l ∧ szMails xs l ≤ 1048576
  | [], l, h1, h2 => ⟨h1, h2⟩
  | x :: xs, l, h1, h2 => by
    have := szMail_lo x l h2
    have h3 := szMails_lo xs (szMail x l) this.1 this.2
    exact ⟨szT_lo fun _ => h3.1, szT_hi (by omega) h3.2⟩
theorem szNs_lo (xs : List Node) (l : Int) (h : l ≤ 1048576) : -1 ≤ szNs xs l ∧ szNs xs l ≤ 1048576 := by
  have := szNodes_lo xs _ (szL_lo xs.length l) (szL_hi h (by omega))
  exact ⟨szT_lo fun _ => this.1, szT_hi (by omega) this.2⟩
theorem szMs_lo (xs : List Mail) (l : Int) (h : l ≤ 1048576) : -1 ≤ szMs xs l ∧ szMs xs l ≤ 1048576 := by
  have := szMails_lo xs _ (szL_lo xs.length l) (szL_hi h (by omega))
  exact ⟨szT_lo fun _ => this.1, szT_hi (by omega) this.2⟩
def limN (b : Nat) (x : Node) : Prop := x.log.length ≤ b ∧ x.votes.length ≤ b ∧ x.next.length ≤ b ∧ x.match_.length ≤ b
def limM (b : Nat) (x : Mail) : Prop := x.entries.length ≤ b
def limC (b : Nat) (x : Cluster) : Prop := (x.nodes.length ≤ b ∧ ∀ y ∈ x.nodes, limN b y) ∧ (x.mails.length ≤ b ∧ ∀ y ∈ x.mails, limM b y) ∧ x.wins.length ≤ b ∧ x.seals.length ≤ b
theorem szNode_lim {x : Node} {l : Int} (h : 0 ≤ szNode x l) (hl : l ≤ 1048576) : limN 1048576 x ∧ szNode x l ≤ 1048576 := by
  unfold szNode at h
  obtain ⟨a1, a2, _⟩ := szT_ge h
  obtain ⟨b1, b2, _⟩ := szT_ge a2
  obtain ⟨c1, c2, _⟩ := szT_ge b2
  obtain ⟨d1, d2, _⟩ := szT_ge c2
  have e1 := szL_ge a1
  have e2 := szL_ge b1
  have e3 := szL_ge c1
  have e4 := szL_ge d1
  exact ⟨⟨by omega, by omega, by omega, by omega⟩, (szNode_lo x l hl).2⟩
theorem szMail_lim {x : Mail} {l : Int} (h : 0 ≤ szMail x l) (hl : l ≤ 1048576) : limM 1048576 x ∧ szMail x l ≤ 1048576 := by
  unfold szMail at h
  obtain ⟨a1, a2, _⟩ := szT_ge h
  have e1 := szL_ge a1
  exact ⟨by unfold limM; omega, (szMail_lo x l hl).2⟩
theorem szNodes_lim : ∀ {xs : List Node} {l : Int}, 0 ≤ szNodes xs l → l ≤ 1048576 → ∀ y ∈ xs, limN 1048576 y
  | [], _, _, _ => by simp
  | x :: xs, l, h, hl => by
    obtain ⟨a1, a2, _⟩ := szT_ge h
    obtain ⟨b1, b2⟩ := szNode_lim a1 hl
    intro y hy
    rcases List.mem_cons.1 hy with rfl | hy
    · exact b1
    · exact szNodes_lim a2 b2 y hy
theorem szMails_lim : ∀ {xs : List Mail} {l : Int}, 0 ≤ szMails xs l → l ≤ 1048576 → ∀ y ∈ xs, limM 1048576 y
  | [], _, _, _ => by simp
  | x :: xs, l, h, hl => by
    obtain ⟨a1, a2, _⟩ := szT_ge h
    obtain ⟨b1, b2⟩ := szMail_lim a1 hl
    intro y hy
    rcases List.mem_cons.1 hy with rfl | hy
    · exact b1
    · exact szMails_lim a2 b2 y hy
theorem szCluster_lim {x : Cluster} {l : Int} (h : 0 ≤ szCluster x l) (hl : l ≤ 1048576) : limC 1048576 x := by
  unfold szCluster at h
  obtain ⟨a1, a2, _⟩ := szT_ge h
  obtain ⟨b1, b2, _⟩ := szT_ge a2
  obtain ⟨c1, c2, _⟩ := szT_ge b2
  obtain ⟨d1, d2, _⟩ := szT_ge c2
  have e1 := (szNs_lo x.nodes l hl).2
  have e2 := (szMs_lo x.mails _ e1).2
  obtain ⟨f1, f2, _⟩ := szT_ge a1
  obtain ⟨g1, g2, _⟩ := szT_ge b1
  have q1 := szL_ge f1
  have q2 := szL_ge g1
  have q3 := szL_ge c1
  have q4 := szL_ge d1
  exact ⟨⟨by omega, szNodes_lim f2 (szL_hi hl (by omega))⟩, ⟨by omega, szMails_lim g2 (szL_hi e1 (by omega))⟩, by omega, by omega⟩
theorem getD_bld {α : Type} {l : List α} {n i : Nat} {d : α} (h : l.length = i) : (l ++ List.replicate n d).getD i d = d := by
  rw [List.getD_eq_getElem?_getD, List.getElem?_append_right (by omega)]
  cases h2 : (List.replicate n d)[i - l.length]? with
  | none => rfl
  | some x => exact List.eq_of_mem_replicate (List.mem_of_getElem? h2)
theorem bld_step {α : Type} (f : α → List T) (z : α) (d : List T) {xs : List α} {i : Nat} (h : i < xs.length) : ((xs.take i).map f ++ List.replicate (xs.length - i) d).set i (f (xs.getD i z)) = (xs.take (i + 1)).map f ++ List.replicate (xs.length - (i + 1)) d := by
  rw [take_succ_map f z h]
  have e : xs.length - i = (xs.length - (i + 1)) + 1 := by omega
  have hl : ((xs.take i).map f).length = i := by simp; omega
  rw [e, List.replicate_succ, List.set_append_right _ _ (by omega), hl, Nat.sub_self, List.set_cons_zero, List.append_assoc]
  rfl
attribute [go_sem] Nat.sub_self
def mkL {α : Type} (m : α → Int → α) (s : α → Int → Int) : List α → Int → List α
  | [], _ => []
  | x :: xs, k => m x k :: mkL m s xs (s x k)
def mkK {α : Type} (s : α → Int → Int) : List α → Int → Int
  | [], k => k
  | x :: xs, k => mkK s xs (s x k)
theorem mkL_length {α : Type} (m : α → Int → α) (s : α → Int → Int) : ∀ (xs : List α) (k : Int), (mkL m s xs k).length = xs.length
  | [], _ => rfl
  | x :: xs, k => by simp [mkL, mkL_length m s xs]
theorem mkL_snoc {α : Type} (m : α → Int → α) (s : α → Int → Int) (y : α) : ∀ (xs : List α) (k : Int), mkL m s (xs ++ [y]) k = mkL m s xs k ++ [m y (mkK s xs k)]
  | [], _ => rfl
  | x :: xs, k => by simp [mkL, mkK, mkL_snoc m s y xs]
theorem mkK_snoc {α : Type} (s : α → Int → Int) (y : α) : ∀ (xs : List α) (k : Int), mkK s (xs ++ [y]) k = s y (mkK s xs k)
  | [], _ => rfl
  | x :: xs, k => by simp [mkK, mkK_snoc s y xs]
theorem take_snoc {α : Type} (z : α) {xs : List α} {i : Nat} (h : i < xs.length) : xs.take (i + 1) = xs.take i ++ [xs.getD i z] := by
  rw [List.take_add_one, List.getD_eq_getElem?_getD, List.getElem?_eq_getElem h]
  rfl
theorem mkK_succ {α : Type} (s : α → Int → Int) (z : α) {xs : List α} {i : Nat} (h : i < xs.length) (k : Int) : mkK s (xs.take (i + 1)) k = s (xs.getD i z) (mkK s (xs.take i) k) := by
  rw [take_snoc z h, mkK_snoc]
theorem mk_step {α : Type} (f : α → List T) (m : α → Int → α) (s : α → Int → Int) (z : α) {xs : List α} {i : Nat} (h : i < xs.length) (k : Int) :
    ((mkL m s (xs.take i) k ++ xs.drop i).map f).set i (f (m (xs.getD i z) (mkK s (xs.take i) k))) = (mkL m s (xs.take (i + 1)) k ++ xs.drop (i + 1)).map f := by
  rw [take_snoc z h, mkL_snoc, drop_getD z h]
  have hl : (mkL m s (xs.take i) k).length = i := by rw [mkL_length]; simp; omega
  have e : ∀ y r, ((mkL m s (xs.take i) k ++ y :: r).map f).set i (f (m (xs.getD i z) (mkK s (xs.take i) k))) = (mkL m s (xs.take i) k ++ (m (xs.getD i z) (mkK s (xs.take i) k)) :: r).map f := by
    intro y r
    rw [List.map_append, List.set_append_right _ _ (by rw [List.length_map]; omega), List.length_map, hl, Nat.sub_self, List.map_cons, List.set_cons_zero, List.map_append, List.map_cons]
  rw [e, List.append_assoc]
  rfl
theorem mkL_getD {α : Type} (m : α → Int → α) (s : α → Int → Int) (z : α) : ∀ {xs : List α} {i : Nat} (k : Int), i < xs.length → (mkL m s xs k).getD i z = m (xs.getD i z) (mkK s (xs.take i) k)
  | [], i, k, h => by simp at h
  | x :: xs, 0, k, h => rfl
  | x :: xs, i + 1, k, h => by
    have := mkL_getD m s z (xs := xs) (i := i) (s x k) (by simpa using h)
    simpa only [mkL, List.getD_cons_succ, List.take_succ_cons, mkK] using this
theorem mk_getD {α : Type} (m : α → Int → α) (s : α → Int → Int) (z : α) {xs : List α} {i : Nat} (k : Int) (h : i < xs.length) : (mkL m s (xs.take i) k ++ xs.drop i).getD i z = xs.getD i z := by
  have hl : (mkL m s (xs.take i) k).length = i := by rw [mkL_length]; simp; omega
  rw [List.getD_eq_getElem?_getD, List.getElem?_append_right (by omega), hl, Nat.sub_self, drop_getD z h]
  rfl
theorem mkK_mono {α : Type} {s : α → Int → Int} (hs : ∀ x k, k ≤ s x k) : ∀ (xs : List α) (k : Int), k ≤ mkK s xs k
  | [], k => Int.le_refl k
  | x :: xs, k => Int.le_trans (hs x k) (mkK_mono hs xs _)
theorem mkK_app {α : Type} {s : α → Int → Int} : ∀ (xs ys : List α) (k : Int), mkK s (xs ++ ys) k = mkK s ys (mkK s xs k)
  | [], _, _ => rfl
  | x :: xs, ys, k => by simp [mkK, mkK_app xs ys]
theorem mkK_take {α : Type} {s : α → Int → Int} (hs : ∀ x k, k ≤ s x k) (xs : List α) (i : Nat) (k : Int) : mkK s (xs.take i) k ≤ mkK s xs k := by
  conv => rhs; rw [← List.take_append_drop i xs, mkK_app]
  exact mkK_mono hs _ _
theorem mkK_at {α : Type} {s : α → Int → Int} (hs : ∀ x k, k ≤ s x k) (z : α) {xs : List α} {i : Nat} (h : i < xs.length) {k b : Int} (hb : mkK s xs k ≤ b) : k ≤ mkK s (xs.take i) k ∧ s (xs.getD i z) (mkK s (xs.take i) k) ≤ b := by
  rw [← mkK_succ s z h]
  exact ⟨mkK_mono hs _ _, Int.le_trans (mkK_take hs _ _ _) hb⟩
theorem mkK_bd {α : Type} {s : α → Int → Int} {c : Int} (hc : 0 ≤ c) : ∀ {xs : List α} {k : Int}, (∀ x ∈ xs, ∀ k, s x k ≤ k + c) → mkK s xs k ≤ k + c * xs.length
  | [], k, h => by simp [mkK]
  | x :: xs, k, h => by
    have h1 := h x (by simp) k
    have h2 := mkK_bd hc (xs := xs) (k := s x k) fun y hy => h y (by simp [hy])
    simp only [mkK, List.length_cons]
    rw [show c * ((xs.length + 1 : Nat) : Int) = c * xs.length + c by rw [Int.natCast_add, Int.mul_add]; simp]
    omega
theorem arr_eq {sz v v' : Nat} {c : Option Nat} {r r' : List (List T)} (h1 : r = r') (h2 : v = v') : some (Mem.arr ⟨sz, r, v, c⟩) = some (Mem.arr ⟨sz, r', v', c⟩) := by rw [h1, h2]
theorem int_eq {k : IntKind} {a b : Int} (h : a = b) : some (V.int k a) = some (V.int k b) := by rw [h]
def mI (_ : Int) (k : Int) : Int := k
def sI (_ : Int) (k : Int) : Int := k + 1
def mC (_ : Cmd) (k : Int) : Cmd := ⟨k, k + 1, k + 1 + 1, k + 1 + 1 + 1, k + 1 + 1 + 1 + 1, k + 1 + 1 + 1 + 1 + 1⟩
def mE (x : Entry) (k : Int) : Entry := ⟨k, k + 1, k + 1 + 1, mC x.cmd (k + 1 + 1 + 1)⟩
def sE (_ : Entry) (k : Int) : Int := k + 1 + 1 + 1 + 1 + 1 + 1 + 1 + 1 + 1
def mW (_ : Won) (k : Int) : Won := ⟨k, k + 1⟩
def sW (_ : Won) (k : Int) : Int := k + 1 + 1
def mS (x : Seal) (k : Int) : Seal := ⟨k, mE x.entry (k + 1)⟩
def sS (_ : Seal) (k : Int) : Int := k + 1 + 1 + 1 + 1 + 1 + 1 + 1 + 1 + 1 + 1
def mM (x : Mail) (k : Int) : Mail := ⟨k, k + 1, k + 1 + 1, k + 1 + 1 + 1, k + 1 + 1 + 1 + 1, k + 1 + 1 + 1 + 1 + 1, k + 1 + 1 + 1 + 1 + 1 + 1, decide ((k + 1 + 1 + 1 + 1 + 1 + 1 + 1).tmod 3 = 0), mkL mE sE x.entries (k + 1 + 1 + 1 + 1 + 1 + 1 + 1 + 1)⟩
def sM (x : Mail) (k : Int) : Int := mkK sE x.entries (k + 1 + 1 + 1 + 1 + 1 + 1 + 1 + 1)
def mN1 (x : Node) (k : Int) : Node := { x with log := mkL mE sE x.log k, votes := mkL mI sI x.votes (mkK sE x.log k), next := mkL mI sI x.next (mkK sI x.votes (mkK sE x.log k)), match_ := mkL mI sI x.match_ (mkK sI x.next (mkK sI x.votes (mkK sE x.log k))) }
def sN1 (x : Node) (k : Int) : Int := mkK sI x.match_ (mkK sI x.next (mkK sI x.votes (mkK sE x.log k)))
def kN4 (x : Node) (k : Int) : Int := mkK sE x.log (k + 1 + 1 + 1 + 1)
def mN (x : Node) (k : Int) : Node := ⟨k, k + 1, k + 1 + 1, k + 1 + 1 + 1, mkL mE sE x.log (k + 1 + 1 + 1 + 1), kN4 x k, kN4 x k + 1, mkL mI sI x.votes (kN4 x k + 1 + 1), mkL mI sI x.next (mkK sI x.votes (kN4 x k + 1 + 1)), mkL mI sI x.match_ (mkK sI x.next (mkK sI x.votes (kN4 x k + 1 + 1)))⟩
def sN (x : Node) (k : Int) : Int := mkK sI x.match_ (mkK sI x.next (mkK sI x.votes (kN4 x k + 1 + 1)))
theorem sI_up (x : Int) (k : Int) : k ≤ sI x k := by unfold sI; omega
theorem sE_up (x : Entry) (k : Int) : k ≤ sE x k := by unfold sE; omega
theorem sW_up (x : Won) (k : Int) : k ≤ sW x k := by unfold sW; omega
theorem sS_up (x : Seal) (k : Int) : k ≤ sS x k := by unfold sS; omega
theorem sM_up (x : Mail) (k : Int) : k ≤ sM x k := by
  have := mkK_mono sE_up x.entries (k + 1 + 1 + 1 + 1 + 1 + 1 + 1 + 1)
  unfold sM; omega
theorem sN_up (x : Node) (k : Int) : k ≤ sN x k := by
  have h1 := mkK_mono sE_up x.log (k + 1 + 1 + 1 + 1)
  have h2 := mkK_mono sI_up x.votes (kN4 x k + 1 + 1)
  have h3 := mkK_mono sI_up x.next (mkK sI x.votes (kN4 x k + 1 + 1))
  have h4 := mkK_mono sI_up x.match_ (mkK sI x.next (mkK sI x.votes (kN4 x k + 1 + 1)))
  unfold sN; unfold kN4 at *; omega
theorem getD_mem {α : Type} (z : α) {xs : List α} {i : Nat} (h : i < xs.length) : xs.getD i z ∈ xs := by
  rw [List.getD_eq_getElem?_getD, List.getElem?_eq_getElem h]
  exact List.getElem_mem h
theorem sN1_up (x : Node) (k : Int) : k ≤ sN1 x k := by
  have h1 := mkK_mono sE_up x.log k
  have h2 := mkK_mono sI_up x.votes (mkK sE x.log k)
  have h3 := mkK_mono sI_up x.next (mkK sI x.votes (mkK sE x.log k))
  have h4 := mkK_mono sI_up x.match_ (mkK sI x.next (mkK sI x.votes (mkK sE x.log k)))
  unfold sN1; omega
def mCl (x : Cluster) (k : Int) : Cluster := ⟨mkL mN sN x.nodes k, mkL mM sM x.mails (mkK sN x.nodes k), mkL mW sW x.wins (mkK sM x.mails (mkK sN x.nodes k)), mkL mS sS x.seals (mkK sW x.wins (mkK sM x.mails (mkK sN x.nodes k)))⟩
def sCl (x : Cluster) (k : Int) : Int := mkK sS x.seals (mkK sW x.wins (mkK sM x.mails (mkK sN x.nodes k)))
theorem sCl_up (x : Cluster) (k : Int) : k ≤ sCl x k := by
  have v1 := mkK_mono sN_up x.nodes k
  have v2 := mkK_mono sM_up x.mails (mkK sN x.nodes k)
  have v3 := mkK_mono sW_up x.wins (mkK sM x.mails (mkK sN x.nodes k))
  have v4 := mkK_mono sS_up x.seals (mkK sW x.wins (mkK sM x.mails (mkK sN x.nodes k)))
  unfold sCl; omega
theorem mCl_n (x : Cluster) (k : Int) : (mCl x k).nodes.length = x.nodes.length := mkL_length ..
theorem mCl_m (x : Cluster) (k : Int) : (mCl x k).mails.length = x.mails.length := mkL_length ..
theorem mCl_w (x : Cluster) (k : Int) : (mCl x k).wins.length = x.wins.length := mkL_length ..
theorem mCl_s (x : Cluster) (k : Int) : (mCl x k).seals.length = x.seals.length := mkL_length ..
attribute [go_sem] mCl_n mCl_m mCl_w mCl_s
theorem mCl_tn (x : Cluster) (k : Int) : List.take x.nodes.length (mCl x k).nodes = (mCl x k).nodes := List.take_of_length_le (by rw [mCl_n]; exact Nat.le_refl _)
theorem mCl_tm (x : Cluster) (k : Int) : List.take x.mails.length (mCl x k).mails = (mCl x k).mails := List.take_of_length_le (by rw [mCl_m]; exact Nat.le_refl _)
theorem mCl_tw (x : Cluster) (k : Int) : List.take x.wins.length (mCl x k).wins = (mCl x k).wins := List.take_of_length_le (by rw [mCl_w]; exact Nat.le_refl _)
theorem mCl_ts (x : Cluster) (k : Int) : List.take x.seals.length (mCl x k).seals = (mCl x k).seals := List.take_of_length_le (by rw [mCl_s]; exact Nat.le_refl _)
attribute [go_sem] mCl_tn mCl_tm mCl_tw mCl_ts
theorem toNat_sub1 (n : Nat) : ((n : Int) - 1).toNat = n - 1 := by omega
theorem toNat_add1 (n : Nat) : ((n : Int) + 1).toNat = n + 1 := by omega
attribute [go_sem] toNat_sub1 toNat_add1 Int.add_sub_cancel
def w64 (n : Int) : Int := IntKind.wrap .i64 n
def lastE (xs : List Entry) : Entry := if xs.length = 0 then zEntry else xs.getD (xs.length - 1) zEntry
def isId (x : Node) (i : Int) : Bool := inR i 0 (IntKind.wrap .i64 (x.peers - 1))
def cVip (k : Int) : Bool := inR k 5 8
def isNum (x : Cmd) : Bool := if x.kind = 1 ∨ x.kind = 2 then inR x.number 0 9 else if x.kind = 3 then inR x.number 1 3 else if x.kind = 9 then inR x.number 0 1 else inR x.number 0 65535
def isPro (n : Int) : Bool := decide (n = 6) || decide (n = 17)
def nd1 (k : Int) : Bool := !inR k 5 6
def nd2 (k : Int) : Bool := decide (k = 1) || inR k 5 8
def nd3 (k : Int) : Bool := !decide (k = 4)
def nd4 (k : Int) : Bool := inR k 5 8
def cmdFault (x : Cmd) : Int :=
  if !inR x.kind 1 9 then 1 else
  if !inR x.expect (-1) 1000000 || (nd1 x.kind && !inR x.name 1 999) || (nd2 x.kind && !inR x.addr 0 4294967295) || (nd3 x.kind && !isNum x) || (nd4 x.kind && !isPro x.proto) then 3 else
  if (!nd1 x.kind && decide (x.name ≠ 0)) || (!nd2 x.kind && decide (x.addr ≠ 0)) || (!nd3 x.kind && decide (x.number ≠ 0)) || (!nd4 x.kind && decide (x.proto ≠ 0)) then 1 else 0
theorem exp_eq (n : Int) : (!decide (n = -1) && !inR n 0 1000000) = !inR n (-1) 1000000 := by
  rw [Bool.eq_iff_iff]
  simp [inR]
  omega
def cmdZero (c : Cmd) : Bool := decide (c.kind = 0) && (decide (c.expect = 0) && (decide (c.name = 0) && (decide (c.addr = 0) && (decide (c.number = 0) && decide (c.proto = 0)))))
def entryFault (x : Entry) : Int :=
  if !inR x.term 1 100000 || !inR x.client 0 999 || !inR x.seq 0 1000000 then 3 else
  if decide (x.client = 0) ≠ decide (x.seq = 0) then 1 else
  if x.client ≠ 0 then cmdFault x.cmd else
  if !cmdZero x.cmd then 1 else 0
def scanN (f : Nat → Int) : Nat → Nat → Int
  | 0, _ => 0
  | n + 1, i => if f i = 0 then scanN f n (i + 1) else f i
def scan (f : Nat → Int) (n i : Nat) : Int := scanN f (n - i) i
theorem scan_lt {f : Nat → Int} {n i : Nat} (h : i < n) : scan f n i = if f i = 0 then scan f n (i + 1) else f i := by
  unfold scan
  rw [show n - i = (n - (i + 1)) + 1 by omega]
  rfl
theorem scan_ge {f : Nat → Int} {n i : Nat} (h : n ≤ i) : scan f n i = 0 := by
  unfold scan
  rw [show n - i = 0 by omega]
  rfl
theorem scanN_zero {f : Nat → Int} : ∀ {n i : Nat}, scanN f n i = 0 ↔ ∀ j, j < n → f (i + j) = 0
  | 0, i => by simp [scanN]
  | n + 1, i => by
    simp only [scanN]
    constructor
    · intro h j hj
      split at h
      · rename_i h0
        rcases j with _ | j
        · exact h0
        · have := scanN_zero.1 h j (by omega)
          rw [show i + (j + 1) = i + 1 + j by omega]
          exact this
      · rename_i h0; exact absurd h h0
    · intro h
      have h0 := h 0 (by omega)
      rw [Nat.add_zero] at h0
      rw [if_pos h0]
      refine scanN_zero.2 fun j hj => ?_
      rw [show i + 1 + j = i + (j + 1) by omega]
      exact h (j + 1) (by omega)
theorem scan_zero {f : Nat → Int} {n : Nat} : scan f n 0 = 0 ↔ ∀ j, j < n → f j = 0 := by
  unfold scan
  rw [scanN_zero]
  simp
def logBad (xs : List Entry) (i : Nat) : Int :=
  if entryFault (xs.getD i zEntry) ≠ 0 then entryFault (xs.getD i zEntry) else
  if 0 < i ∧ (xs.getD i zEntry).term < (xs.getD (i - 1) zEntry).term then 1 else 0
def logFault (xs : List Entry) : Int := if 40 < xs.length then 2 else scan (logBad xs) xs.length 0
def rises (xs : List Int) : Prop := ∀ i, 0 < i → i < xs.length → xs.getD (i - 1) zI_i64 < xs.getD i zI_i64
def idsOk (x : Node) : Prop := ∀ i, i < x.votes.length → isId x (x.votes.getD i zI_i64) = true
noncomputable instance (xs : List Int) : Decidable (rises xs) := Classical.propDecidable _
noncomputable instance (x : Node) : Decidable (idsOk x) := Classical.propDecidable _
def due (x : Node) : Int := if x.role = 2 then x.peers else 0
def listsOk (x : Node) : Prop := rises x.votes ∧ ¬ (0 < x.votes.length ∧ x.role ≠ 1) ∧ idsOk x ∧ (x.next.length : Int) = due x ∧ (x.match_.length : Int) = due x
noncomputable instance (x : Node) : Decidable (listsOk x) := Classical.propDecidable _
def nodeRange (x : Node) : Bool := inR x.peers 1 5 && isId x x.id && inR x.term 0 100000 && (decide (x.voted = -1) || isId x x.voted) && inR x.role 0 2
def rangeOk (xs : List Int) (a b : Int) : Prop := ∀ i, i < xs.length → inR (xs.getD i zI_i64) a b = true
noncomputable instance (xs : List Int) (a b : Int) : Decidable (rangeOk xs a b) := Classical.propDecidable _
noncomputable def nodeFault (x : Node) : Int :=
  if nodeRange x = false then 3 else
  if logFault x.log ≠ 0 then logFault x.log else
  if x.term < (lastE x.log).term then 1 else
  if inR x.commit 0 x.log.length = false then 3 else
  if ¬ listsOk x then 1 else
  if ¬ rangeOk x.next 1 (x.log.length + 1) ∨ ¬ rangeOk x.match_ 0 x.log.length then 3 else
  if x.role ≠ 0 ∧ (x.voted ≠ x.id ∨ x.term = 0) then 1 else 0
noncomputable def idxP (p : Int → Bool) (xs : List Int) : Int := if ∃ i, i < xs.length ∧ p (xs.getD i zI_i64) = true then xs.findIdx p else -1
theorem idxP_none {p : Int → Bool} {xs : List Int} (h : ∀ i, i < xs.length → p (xs.getD i zI_i64) = false) : idxP p xs = -1 := by
  unfold idxP
  rw [if_neg]
  rintro ⟨i, hi, hp⟩
  rw [h i hi] at hp
  cases hp
theorem idxP_some {p : Int → Bool} {xs : List Int} {i : Nat} (hi : i < xs.length) (h : ∀ j, j < i → p (xs.getD j zI_i64) = false) (hp : p (xs.getD i zI_i64) = true) : idxP p xs = i := by
  unfold idxP
  rw [if_pos ⟨i, hi, hp⟩]
  congr 1
  rw [List.findIdx_eq hi]
  have e : ∀ j (hj : j < xs.length), xs.getD j zI_i64 = xs[j] := fun j hj => by rw [List.getD_eq_getElem?_getD, List.getElem?_eq_getElem hj]; rfl
  exact ⟨by rw [← e i hi]; exact hp, fun j hj => by rw [← e j (by omega)]; exact h j hj⟩
theorem idxP_ge {p : Int → Bool} {xs : List Int} : decide (idxP p xs ≥ 0) = decide (∃ i, i < xs.length ∧ p (xs.getD i zI_i64) = true) := by
  unfold idxP
  rw [Bool.eq_iff_iff]
  simp only [decide_eq_true_eq]
  split
  · rename_i h; exact ⟨fun _ => h, fun _ => by omega⟩
  · rename_i h; exact ⟨fun h2 => absurd h2 (by omega), fun h2 => absurd h2 h⟩
theorem wrap_small {n : Int} (h1 : -9223372036854775808 ≤ n) (h2 : n ≤ 9223372036854775807) : IntKind.wrap .i64 n = n := okI_wrap (k := .i64) ⟨h1, h2⟩
theorem voted_eq (x : Node) (h : inR x.peers 1 5 = true) : inR x.voted (-1) (IntKind.wrap .i64 (x.peers - 1)) = (decide (x.voted = -1) || isId x x.voted) := by
  unfold isId inR at *
  simp only [Bool.and_eq_true, decide_eq_true_eq] at h
  rw [wrap_small (by omega) (by omega), Bool.eq_iff_iff]
  simp
  omega
theorem listsOk_len {x : Node} (h : listsOk x) : x.next.length = x.match_.length := by
  unfold listsOk at h
  omega
def mailZeros (m : Mail) : Prop := (m.kind = 1 → m.commit = 0) ∧ (m.kind = 2 → m.index = 0 ∧ m.last = 0 ∧ m.commit = 0) ∧ (m.kind = 4 → m.last = 0 ∧ m.commit = 0)
noncomputable instance (m : Mail) : Decidable (mailZeros m) := Classical.propDecidable _
def mailRange (x : Node) (m : Mail) : Bool := isId x m.from_ && !decide (m.from_ = x.id) && decide (m.to_ = x.id) && inR m.term 1 100000 && inR m.index 0 40 && inR m.last 0 m.term && inR m.commit 0 40
def mailLog (m : Mail) : Prop := 0 < m.entries.length → m.kind = 3 ∧ (lastE m.entries).term ≤ m.term ∧ m.last ≤ (m.entries.getD 0 zEntry).term
def mailForm (m : Mail) : Prop := mailLog m ∧ (m.ok = true → m.kind = 2 ∨ m.kind = 4) ∧ mailZeros m ∧ (m.index = 0 → m.last = 0)
noncomputable instance (m : Mail) : Decidable (mailForm m) := Classical.propDecidable _
noncomputable def mailFault (x : Node) (m : Mail) : Int :=
  if inR m.kind 1 4 = false then 5 else
  if mailRange x m = false then 3 else
  if logFault m.entries ≠ 0 then logFault m.entries else
  if ¬ mailForm m then 1 else 0
noncomputable def nodeAt (x : Cluster) (i : Nat) : Int :=
  if nodeFault (x.nodes.getD i zNode) ≠ 0 then nodeFault (x.nodes.getD i zNode) else
  if (x.nodes.getD i zNode).id ≠ i ∨ (x.nodes.getD i zNode).peers ≠ x.nodes.length then 1 else 0
def place (x : Cluster) (n : Int) : Bool := inR n 0 ((x.nodes.length : Int) - 1)
noncomputable def mailAt (x : Cluster) (i : Nat) : Int :=
  if place x (x.mails.getD i zMail).to_ = false then 3 else mailFault (x.nodes.getD (x.mails.getD i zMail).to_.toNat zNode) (x.mails.getD i zMail)
def winAt (x : Cluster) (i : Nat) : Int := if inR (x.wins.getD i zWon).term 1 100000 = false ∨ place x (x.wins.getD i zWon).node = false then 3 else 0
def sealAt (x : Cluster) (i : Nat) : Int := if inR (x.seals.getD i zSeal).term 1 100000 = false then 3 else entryFault (x.seals.getD i zSeal).entry
theorem nodeAt_eq (x : Cluster) (i : Nat) : nodeAt x i = if nodeFault (x.nodes.getD i zNode) ≠ 0 then nodeFault (x.nodes.getD i zNode) else
  if (x.nodes.getD i zNode).id ≠ i ∨ (x.nodes.getD i zNode).peers ≠ x.nodes.length then 1 else 0 := rfl
theorem mailAt_eq (x : Cluster) (i : Nat) : mailAt x i = if place x (x.mails.getD i zMail).to_ = false then 3 else mailFault (x.nodes.getD (x.mails.getD i zMail).to_.toNat zNode) (x.mails.getD i zMail) := rfl
theorem winAt_eq (x : Cluster) (i : Nat) : winAt x i = if inR (x.wins.getD i zWon).term 1 100000 = false ∨ place x (x.wins.getD i zWon).node = false then 3 else 0 := rfl
theorem sealAt_eq (x : Cluster) (i : Nat) : sealAt x i = if inR (x.seals.getD i zSeal).term 1 100000 = false then 3 else entryFault (x.seals.getD i zSeal).entry := rfl
noncomputable def clusterFault (x : Cluster) : Int :=
  if x.nodes.length < 1 ∨ 5 < x.nodes.length ∨ 80 < x.mails.length then 2 else
  if scan (nodeAt x) x.nodes.length 0 ≠ 0 then scan (nodeAt x) x.nodes.length 0 else
  if scan (mailAt x) x.mails.length 0 ≠ 0 then scan (mailAt x) x.mails.length 0 else
  if 400 < x.wins.length ∨ 40 < x.seals.length then 2 else
  if scan (winAt x) x.wins.length 0 ≠ 0 then scan (winAt x) x.wins.length 0 else
  scan (sealAt x) x.seals.length 0
theorem place_iff {x : Cluster} {n : Int} : place x n = true ↔ 0 ≤ n ∧ n < x.nodes.length := by
  unfold place inR
  simp
  omega
theorem nodes_ok {x : Cluster} (h : scan (nodeAt x) x.nodes.length 0 = 0) {i : Nat} (hi : i < x.nodes.length) : nodeFault (x.nodes.getD i zNode) = 0 ∧ (x.nodes.getD i zNode).id = i ∧ (x.nodes.getD i zNode).peers = x.nodes.length := by
  have := scan_zero.1 h i hi
  rw [nodeAt_eq] at this
  grind
noncomputable def mailGuard (x : Cluster) (p : Int) : Int := if clusterFault x ≠ 0 then clusterFault x else if inR p 0 ((x.mails.length : Int) - 1) = false then 3 else 0
def bad (c : Int) : ClusterResult := ⟨c, zCluster⟩
noncomputable def copyMail (x : Cluster) (p : Int) : ClusterResult :=
  if mailGuard x p ≠ 0 then bad (mailGuard x p) else
  if 80 ≤ x.mails.length then bad 2 else ⟨0, { x with mails := x.mails ++ [x.mails.getD p.toNat zMail] }⟩
theorem guard_iff {x : Cluster} {p : Int} (h : mailGuard x p = 0) : clusterFault x = 0 ∧ ∃ n : Nat, p = n ∧ n < x.mails.length := by
  unfold mailGuard inR at h
  split at h
  · rename_i h0; exact absurd h h0
  · rename_i h0
    split at h
    · cases h
    · rename_i h1
      simp at h1
      exact ⟨by simpa using h0, p.toNat, by omega, by omega⟩
theorem drop_take_one {α : Type} (z : α) {xs : List α} {n : Nat} (h : n < xs.length) : (xs.take (n + 1)).drop n = [xs.getD n z] := by
  rw [take_snoc z h, List.drop_append_of_le_length (by simp; omega), List.drop_of_length_le (by simp; omega)]
  rfl
def resC (c : Int) (x : Cluster) : ClusterResult := if c ≠ 0 then bad c else ⟨0, x⟩
theorem take_snoc_map {α : Type} (f : α → List T) (xs : List α) (r : List T) : List.take (xs.length + 1) (xs.map f ++ [r]) = xs.map f ++ [r] := List.take_of_length_le (by simp)
theorem take_app_map {α : Type} (f : α → List T) (xs ys : List α) : List.take (xs.length + ys.length) ((xs ++ ys).map f) = (xs ++ ys).map f := List.take_of_length_le (by simp)
attribute [go_sem] take_snoc_map take_app_map
def rowV (m : Mail) (v : Value) : List T := [.int .i64 m.kind, .int .i64 m.from_, .int .i64 m.to_, .int .i64 m.term, .int .i64 m.index, .int .i64 m.last, .int .i64 m.commit, .bool m.ok, .val v]
theorem take_set_map {α : Type} (f : α → List T) (xs : List α) (n : Nat) (r : List T) : List.take xs.length ((xs.map f).set n r) = (xs.map f).set n r := List.take_of_length_le (by simp)
attribute [go_sem] take_set_map
theorem noShR_set : ∀ {l : List (List T)} {n : Nat} {r : List T}, T.noShR l → T.noShL r → T.noShR (l.set n r)
  | [], _, _, _, _ => by simp [T.noShR]
  | a :: l, 0, r, h, hr => by simp only [List.set_cons_zero, T.noShR] at h ⊢; exact ⟨hr, h.2⟩
  | a :: l, n + 1, r, h, hr => by simp only [List.set_cons_succ, T.noShR] at h ⊢; exact ⟨h.1, noShR_set h.2 hr⟩
theorem noShR_append : ∀ (l l2 : List (List T)), T.noShR (l ++ l2) = (T.noShR l ∧ T.noShR l2)
  | [], l2 => by simp [T.noShR]
  | a :: l, l2 => by simp only [List.cons_append, T.noShR, noShR_append l l2, and_assoc]
theorem getD_set_app {α : Type} {l : List α} {i : Nat} (h : i < l.length) (r : α) (l2 : List α) (d : α) : (l.set i r ++ l2).getD i d = r := by
  rw [List.getD_eq_getElem?_getD, List.getElem?_append_left (by simpa using h), List.getElem?_set_self h]
  rfl
theorem set_app {α : Type} {l : List α} {i : Nat} (h : i < l.length) (r r2 : α) (l2 : List α) : (l.set i r ++ l2).set i r2 = l.set i r2 ++ l2 := by
  rw [List.set_append_left _ _ (by simpa using h), List.set_set]
theorem set_getD_map {α : Type} (f : α → List T) (z : α) {xs : List α} {i : Nat} (h : i < xs.length) : (xs.map f).set i (f (xs.getD i z)) = xs.map f := by
  rw [List.getD_eq_getElem?_getD, List.getElem?_eq_getElem h]
  apply List.ext_getElem
  · simp
  · intro j h1 h2
    rw [List.getElem_set]
    split
    · rename_i e; subst e; simp
    · rfl
attribute [go_sem] noShR_append
theorem mails_le {x : Cluster} (h : clusterFault x = 0) : x.mails.length ≤ 80 := by
  unfold clusterFault at h
  grind
theorem snoc_map {α : Type} (f : α → List T) (xs : List α) (y : α) : xs.map f ++ [f y] = (xs ++ [y]).map f := by simp
theorem limC_mono {b c : Nat} (h : b ≤ c) {x : Cluster} (hx : limC b x) : limC c x := by
  unfold limC limN limM at *
  obtain ⟨⟨a1, a2⟩, ⟨b1, b2⟩, c1, d1⟩ := hx
  exact ⟨⟨by omega, fun y hy => by have := a2 y hy; omega⟩, ⟨by omega, fun y hy => by have := b2 y hy; omega⟩, by omega, by omega⟩
theorem mkE_bd (xs : List Entry) (k : Int) : mkK sE xs k ≤ k + 9 * xs.length := mkK_bd (by omega) fun x _ k => by unfold sE; omega
theorem mkI_bd (xs : List Int) (k : Int) : mkK sI xs k ≤ k + 1 * xs.length := mkK_bd (by omega) fun x _ k => by unfold sI; omega
theorem sN_bd {x : Node} (h : limN 2097152 x) (k : Int) : sN x k ≤ k + 30000000 := by
  obtain ⟨h1, h2, h3, h4⟩ := h
  have e1 := mkE_bd x.log (k + 1 + 1 + 1 + 1)
  have e2 := mkI_bd x.votes (kN4 x k + 1 + 1)
  have e3 := mkI_bd x.next (mkK sI x.votes (kN4 x k + 1 + 1))
  have e4 := mkI_bd x.match_ (mkK sI x.next (mkK sI x.votes (kN4 x k + 1 + 1)))
  unfold sN
  unfold kN4 at *
  omega
theorem sM_bd {x : Mail} (h : limM 2097152 x) (k : Int) : sM x k ≤ k + 30000000 := by
  unfold limM at h
  have e1 := mkE_bd x.entries (k + 1 + 1 + 1 + 1 + 1 + 1 + 1 + 1)
  unfold sM
  omega
theorem sCl_bd {x : Cluster} (h : limC 2097152 x) : sCl x 1 ≤ 9000000000000000000 := by
  obtain ⟨⟨a1, a2⟩, ⟨b1, b2⟩, c1, d1⟩ := h
  have e1 := mkK_bd (s := sN) (c := 30000000) (by omega) (xs := x.nodes) (k := 1) fun y hy k => sN_bd (a2 y hy) k
  have e2 := mkK_bd (s := sM) (c := 30000000) (by omega) (xs := x.mails) (k := mkK sN x.nodes 1) fun y hy k => sM_bd (b2 y hy) k
  have e3 := mkK_bd (s := sW) (c := 2) (by omega) (xs := x.wins) (k := mkK sM x.mails (mkK sN x.nodes 1)) fun y hy k => by unfold sW; omega
  have e4 := mkK_bd (s := sS) (c := 10) (by omega) (xs := x.seals) (k := mkK sW x.wins (mkK sM x.mails (mkK sN x.nodes 1))) fun y hy k => by unfold sS; omega
  unfold sCl
  omega
theorem lim_bad {c : Int} : limC 2097152 (bad c).cluster := by
  unfold bad zCluster limC
  simp
theorem copyMail_lim {x : Cluster} (h : limC 1048576 x) (p : Int) : limC 2097152 (copyMail x p).cluster := by
  unfold copyMail
  split
  · exact lim_bad
  · split
    · exact lim_bad
    · obtain ⟨⟨a1, a2⟩, ⟨b1, b2⟩, c1, d1⟩ := limC_mono (c := 2097152) (by omega) h
      obtain ⟨_, ⟨b3, _⟩, _, _⟩ := h
      refine ⟨⟨a1, a2⟩, ⟨by simp; omega, fun y hy => ?_⟩, c1, d1⟩
      rcases List.mem_append.1 hy with hy | hy
      · exact b2 y hy
      · simp only [List.mem_singleton] at hy
        subst hy
        by_cases hl : p.toNat < x.mails.length
        · exact b2 _ (getD_mem zMail hl)
        · rw [List.getD_eq_getElem?_getD, List.getElem?_eq_none (by omega)]
          unfold limM
          simp [zMail]
def badN (c : Int) : NodeResult := ⟨c, zNode, []⟩
noncomputable def nodeGuard (x : Cluster) (p : Int) : Int := if clusterFault x ≠ 0 then clusterFault x else if place x p = false then 3 else 0
noncomputable def crashNode (x : Node) : NodeResult := if nodeFault x ≠ 0 then badN (nodeFault x) else ⟨0, ⟨x.id, x.peers, x.term, x.voted, x.log, 0, 0, [], [], []⟩, []⟩
def wonBy (x : Cluster) (i : Nat) (r : Node) : Bool := decide (r.role = 2) && (decide ((x.nodes.getD i zNode).role ≠ 2) || decide ((x.nodes.getD i zNode).term ≠ r.term))
def doWins (x : Cluster) (i : Nat) (r : Node) : List Won := if wonBy x i r then x.wins ++ [⟨r.term, i⟩] else x.wins
def sealsTo (s : List Seal) (r : Node) (k : Nat) : List Seal := s ++ ((r.log.take k).drop s.length).map (fun e => ⟨r.term, e⟩)
def doOk (x : Cluster) (i : Nat) (r : NodeResult) : Bool := decide (r.code = 0) && decide (x.mails.length + r.send.length ≤ 80) && (!wonBy x i r.node || decide (x.wins.length < 400))
def doC (x : Cluster) (i : Nat) (r : NodeResult) : Cluster := ⟨x.nodes.set i r.node, x.mails ++ r.send, doWins x i r.node, sealsTo x.seals r.node r.node.commit.toNat⟩
def doR (x : Cluster) (i : Nat) (r : NodeResult) : ClusterResult := if doOk x i r then ⟨0, doC x i r⟩ else bad (if r.code ≠ 0 then r.code else 2)
theorem sealsTo_self (s : List Seal) (r : Node) {k : Nat} (h : k ≤ s.length) : sealsTo s r k = s := by
  unfold sealsTo
  rw [List.drop_of_length_le (by simp; omega)]
  simp
theorem sealsTo_succ (s : List Seal) (r : Node) {k : Nat} (h : s.length ≤ k) (hk : k < r.log.length) : sealsTo s r (k + 1) = sealsTo s r k ++ [⟨r.term, r.log.getD k zEntry⟩] := by
  unfold sealsTo
  rw [take_snoc zEntry hk, List.drop_append_of_le_length (by simp; omega), List.map_append, List.append_assoc]
  rfl
theorem sealsTo_len (s : List Seal) (r : Node) {k : Nat} (h : s.length ≤ k) (hk : k ≤ r.log.length) : (sealsTo s r k).length = k := by
  unfold sealsTo
  simp
  omega
theorem guardN_iff {x : Cluster} {p : Int} (h : nodeGuard x p = 0) : clusterFault x = 0 ∧ ∃ n : Nat, p = n ∧ n < x.nodes.length := by
  unfold nodeGuard at h
  split at h
  · rename_i h0; exact absurd h h0
  · rename_i h0
    split at h
    · cases h
    · rename_i h1
      have h2 := place_iff.1 (by simpa using h1)
      exact ⟨by simpa using h0, p.toNat, by omega, by omega⟩
theorem cl_nodes {x : Cluster} (h : clusterFault x = 0) {i : Nat} (hi : i < x.nodes.length) : nodeFault (x.nodes.getD i zNode) = 0 ∧ (x.nodes.getD i zNode).id = i ∧ (x.nodes.getD i zNode).peers = x.nodes.length := by
  refine nodes_ok ?_ hi
  unfold clusterFault at h
  grind
theorem cl_wins {x : Cluster} (h : clusterFault x = 0) : x.wins.length ≤ 400 ∧ x.seals.length ≤ 40 := by
  unfold clusterFault at h
  grind
def limR (b : Nat) (r : NodeResult) : Prop := limN b r.node ∧ r.send.length ≤ b ∧ ∀ m ∈ r.send, limM b m
theorem sealsTo_len' (s : List Seal) (r : Node) {k : Nat} (h : s.length ≤ k) (hk : k ≤ max s.length r.log.length) : (sealsTo s r k).length = k := by
  unfold sealsTo
  simp
  omega
theorem sealsTo_end (s : List Seal) (r : Node) {k : Nat} (h : s.length ≤ k) (hk : k ≤ max s.length r.commit.toNat) (hc : r.commit ≤ k) (hl : r.commit ≤ r.log.length) : sealsTo s r k = sealsTo s r r.commit.toNat := by
  rcases Nat.lt_or_ge s.length k with h1 | h1
  · rw [show k = r.commit.toNat by omega]
  · rw [sealsTo_self s r h1, sealsTo_self s r (by omega)]
noncomputable def atNode (x : Cluster) (p : Int) (r : NodeResult) : ClusterResult := if nodeGuard x p ≠ 0 then bad (nodeGuard x p) else doR x p.toNat r
theorem lim_zNode {b : Nat} : limN b zNode := by unfold limN; simp [zNode]
theorem lim_badN {b : Nat} {c : Int} : limR b (badN c) := ⟨lim_zNode, by simp [badN], by simp [badN]⟩
theorem crash_lim {b : Nat} {x : Node} (h : limN b x) : limR b (crashNode x) := by
  unfold crashNode
  split
  · exact lim_badN
  · refine ⟨⟨h.1, by simp, by simp, by simp⟩, by simp, by simp⟩
theorem crash_commit (x : Node) : (crashNode x).node.commit ≤ (crashNode x).node.log.length := by
  unfold crashNode
  split <;> simp [badN, zNode]
attribute [go_sem] T.own T.ownL
theorem lim_getD {b : Nat} {xs : List Node} (h : ∀ y ∈ xs, limN b y) (k : Nat) : limN b (xs.getD k zNode) := by
  by_cases hk : k < xs.length
  · exact h _ (getD_mem zNode hk)
  · rw [List.getD_eq_getElem?_getD, List.getElem?_eq_none (by omega)]
    exact lim_zNode
theorem crash_id {x : Node} (h : (crashNode x).code = 0) : (crashNode x).node.id = x.id := by
  unfold crashNode at *
  split at h
  · rename_i h0; exact absurd h h0
  · rename_i h0; rw [if_neg h0]
theorem atNode_lim {x : Cluster} (h : limC 1048576 x) (p : Int) {r : NodeResult} (hr : limR 1048576 r) : limC 2097152 (atNode x p r).cluster := by
  unfold atNode
  split
  · exact lim_bad
  · unfold doR
    split
    · obtain ⟨⟨a1, a2⟩, ⟨b1, b2⟩, c1, d1⟩ := h
      obtain ⟨⟨e1, e2, e3, e4⟩, f1, f2⟩ := hr
      have hm : limC 2097152 x := limC_mono (by omega) ⟨⟨a1, a2⟩, ⟨b1, b2⟩, c1, d1⟩
      refine ⟨⟨by simp [doC]; omega, fun y hy => ?_⟩, ⟨by simp [doC]; omega, fun y hy => ?_⟩, ?_, ?_⟩
      · rcases List.mem_or_eq_of_mem_set hy with hy | rfl
        · exact hm.1.2 y hy
        · exact ⟨by omega, by omega, by omega, by omega⟩
      · rcases List.mem_append.1 hy with hy | hy
        · exact hm.2.1.2 y hy
        · have := f2 y hy
          unfold limM at *
          omega
      · show (doWins _ _ _).length ≤ _
        unfold doWins
        split
        · simp; omega
        · omega
      · show (sealsTo _ _ _).length ≤ _
        unfold sealsTo
        simp
        omega
    · exact lim_bad
def cntGe (l : List Int) (i : Int) : Nat := l.countP fun k => decide (i ≤ k)
def quor (x : Node) (c : Int) : Bool := decide (x.peers < 2 * c)
def agOk (x : Node) (i : Nat) : Bool := quor x (cntGe x.match_ i) && decide ((x.log.getD (i - 1) zEntry).term = x.term)
def agN (x : Node) (c : Nat) : Nat → Nat
  | 0 => c
  | n + 1 => if n + 1 ≤ c then c else if agOk x (n + 1) then n + 1 else agN x c n
def agI (x : Node) : Int := agN x x.commit.toNat x.log.length
def agreed (x : Node) : Node := { x with commit := agI x }
theorem agN_le (x : Node) (c : Nat) : ∀ {n : Nat}, n ≤ c → agN x c n = c
  | 0, _ => rfl
  | n + 1, h => by rw [agN, if_pos h]
theorem agN_ok (x : Node) {c n : Nat} (h : c < n) (ho : agOk x n = true) : agN x c n = n := by
  obtain ⟨m, rfl⟩ : ∃ m, n = m + 1 := ⟨n - 1, by omega⟩
  rw [agN, if_neg (by omega), if_pos ho]
theorem agN_no (x : Node) {c n : Nat} (h : c < n) (ho : agOk x n = false) : agN x c n = agN x c (n - 1) := by
  obtain ⟨m, rfl⟩ : ∃ m, n = m + 1 := ⟨n - 1, by omega⟩
  rw [agN, if_neg (by omega), if_neg (by rw [ho]; simp)]
  rfl
theorem agN_bd (x : Node) {c : Nat} : ∀ {n : Nat}, c ≤ n → c ≤ agN x c n ∧ agN x c n ≤ n
  | 0, h => ⟨Nat.le_refl _, h⟩
  | n + 1, h => by
    rw [agN]
    split
    · omega
    · split
      · omega
      · have := agN_bd x (c := c) (n := n) (by omega); omega
theorem cntGe_succ {l : List Int} {i : Int} {j : Nat} (h : j < l.length) : cntGe (l.take (j + 1)) i = cntGe (l.take j) i + (if i ≤ l.getD j zI_i64 then 1 else 0) := by
  unfold cntGe
  rw [take_snoc zI_i64 h, List.countP_append]
  simp [List.countP_cons]
theorem cntGe_le (l : List Int) (i : Int) : cntGe l i ≤ l.length := List.countP_le_length
theorem cntGe_take_le (l : List Int) (i : Int) (j : Nat) : cntGe (l.take j) i ≤ l.length := Nat.le_trans (cntGe_le _ _) (by simp; omega)
theorem cntGe_all {l : List Int} {i : Int} : cntGe (l.take l.length) i = cntGe l i := by rw [List.take_length]
theorem node_ok {x : Node} (h : nodeFault x = 0) : (1 ≤ x.peers ∧ x.peers ≤ 5 ∧ 0 ≤ x.id ∧ x.id < x.peers ∧ 0 ≤ x.term ∧ x.term ≤ 100000 ∧ 0 ≤ x.role ∧ x.role ≤ 2) ∧ logFault x.log = 0 ∧ (lastE x.log).term ≤ x.term ∧ (0 ≤ x.commit ∧ x.commit ≤ x.log.length) ∧ listsOk x ∧ rangeOk x.next 1 (x.log.length + 1) ∧ rangeOk x.match_ 0 x.log.length ∧ (x.role ≠ 0 → x.voted = x.id ∧ x.term ≠ 0) ∧ (x.voted = -1 ∨ isId x x.voted = true) := by
  unfold nodeFault at h
  split at h
  · cases h
  rename_i g1
  split at h
  · rename_i g2; exact absurd h g2
  rename_i g2
  split at h
  · cases h
  rename_i g3
  split at h
  · cases h
  rename_i g4
  split at h
  · cases h
  rename_i g5
  split at h
  · cases h
  rename_i g6
  split at h
  · cases h
  rename_i g7
  have g1 : nodeRange x = true := by simpa using g1
  unfold nodeRange isId inR at g1
  simp only [Bool.and_eq_true, decide_eq_true_eq, Bool.or_eq_true] at g1
  obtain ⟨⟨⟨⟨a1, a2⟩, a3⟩, a4⟩, a5⟩ := g1
  rw [wrap_small (by omega) (by omega)] at a2
  have g4 : inR x.commit 0 x.log.length = true := by simpa using g4
  unfold inR at g4
  simp only [Bool.and_eq_true, decide_eq_true_eq] at g4
  refine ⟨⟨a1.1, a1.2, a2.1, by omega, a3.1, a3.2, a5.1, a5.2⟩, by simpa using g2, by omega, g4, by simpa using g5, ?_, ?_, ?_, ?_⟩
  · exact Classical.byContradiction fun hh => g6 (.inl hh)
  · exact Classical.byContradiction fun hh => g6 (.inr hh)
  · intro hr
    constructor
    · exact Classical.byContradiction fun hh => g7 ⟨hr, .inl hh⟩
    · intro hh; exact g7 ⟨hr, .inr hh⟩
  · rcases a4 with a4 | a4
    · exact .inl a4
    · refine .inr ?_
      unfold isId inR
      simp [a4.1, a4.2]
theorem log_le {l : List Entry} (h : logFault l = 0) : l.length ≤ 40 := by
  unfold logFault at h
  split at h
  · cases h
  · omega
theorem node_lead {x : Node} (h : nodeFault x = 0) (hr : x.role = 2) : x.next.length = x.peers.toNat ∧ x.match_.length = x.peers.toNat := by
  have := (node_ok h).2.2.2.2.1
  have hp := (node_ok h).1
  unfold listsOk due at this
  rw [if_pos hr] at this
  omega
theorem set_map_I (l : List Int) (n : Nat) (v : Int) : (l.map eI_i64).set n [.int .i64 v] = (l.set n v).map eI_i64 := by simp [List.map_set, eI_i64]
theorem app_map_E (l : List Entry) (e : Entry) : l.map eEntry ++ [[.int .i64 e.term, .int .i64 e.client, .int .i64 e.seq, .int .i64 e.cmd.kind, .int .i64 e.cmd.expect, .int .i64 e.cmd.name, .int .i64 e.cmd.addr, .int .i64 e.cmd.number, .int .i64 e.cmd.proto]] = (l ++ [e]).map eEntry := by simp [eEntry]
def asked (x : Node) (e : Entry) : Node := { x with log := x.log ++ [e], next := x.next.set x.id.toNat (x.log.length + 1 + 1), match_ := x.match_.set x.id.toNat (x.log.length + 1) }
noncomputable def askNode (x : Node) (e : Entry) : NodeResult :=
  if nodeFault x ≠ 0 then badN (nodeFault x) else if x.role ≠ 2 then badN 10 else if entryFault e ≠ 0 then badN (entryFault e) else if e.term ≠ x.term then badN 1 else if 40 ≤ x.log.length then badN 2 else ⟨0, agreed (asked x e), []⟩
noncomputable def leadF (x : Node) : Int := if nodeFault x ≠ 0 then nodeFault x else if x.role ≠ 2 then 10 else 0
theorem limN_mono {b c : Nat} (h : b ≤ c) {x : Node} (hx : limN b x) : limN c x := by
  unfold limN at *
  omega
theorem take_set_len {α : Type} (l : List α) (n : Nat) (v : α) : List.take l.length (l.set n v) = l.set n v := List.take_of_length_le (by simp)
attribute [go_sem] take_set_len
theorem leadF_ok {x : Node} (h : leadF x = 0) : nodeFault x = 0 ∧ x.role = 2 := by
  unfold leadF at h
  grind
theorem agI_bd {x : Node} (h0 : 0 ≤ x.commit) (h1 : x.commit ≤ x.log.length) : x.commit ≤ agI x ∧ agI x ≤ x.log.length := by
  have := agN_bd x (c := x.commit.toNat) (n := x.log.length) (by omega)
  unfold agI
  omega
theorem ask_lim {b : Nat} (hb : 41 ≤ b) {x : Node} (h : limN b x) (e : Entry) : limR b (askNode x e) := by
  unfold askNode
  split
  · exact lim_badN
  · rename_i h0
    have h0 : nodeFault x = 0 := by simpa using h0
    have hl := log_le (node_ok h0).2.1
    repeat' split
    all_goals first | exact lim_badN | exact ⟨⟨by simp [agreed, asked]; omega, by simpa [agreed, asked] using h.2.1, by simpa [agreed, asked] using h.2.2.1, by simpa [agreed, asked] using h.2.2.2⟩, by simp, by simp⟩
theorem ask_commit (x : Node) (e : Entry) : (askNode x e).node.commit ≤ (askNode x e).node.log.length := by
  unfold askNode
  split
  · simp [badN, zNode]
  · rename_i h0
    have h0 : nodeFault x = 0 := by simpa using h0
    obtain ⟨a, b⟩ := (node_ok h0).2.2.2.1
    repeat' split
    all_goals first | (simp [badN, zNode]; done) | exact (agI_bd (x := asked x e) a (by simp [asked]; omega)).2
theorem ask_id {x : Node} {e : Entry} (h : (askNode x e).code = 0) : (askNode x e).node.id = x.id := by
  unfold askNode at *
  grind [badN, agreed, asked]
def spreadM (x : Node) (i k : Nat) : Mail := ⟨3, x.id, i, x.term, k, (lastE (x.log.take k)).term, x.commit, false, (x.log.take (min x.log.length (k + 4))).drop k⟩
def othersTo (f : Nat → Mail) (id : Int) (n : Nat) : List Mail := ((List.range n).filter fun i : Nat => !decide ((i : Int) = id)).map f
theorem othersTo_succ (f : Nat → Mail) {id : Int} {n : Nat} (h : (n : Int) ≠ id) : othersTo f id (n + 1) = othersTo f id n ++ [f n] := by
  unfold othersTo
  rw [List.range_succ, List.filter_append, List.map_append]
  simp [h]
theorem othersTo_skip (f : Nat → Mail) {id : Int} {n : Nat} (h : (n : Int) = id) : othersTo f id (n + 1) = othersTo f id n := by
  unfold othersTo
  rw [List.range_succ, List.filter_append, List.map_append]
  simp [h]
theorem othersTo_len (f : Nat → Mail) (id : Int) (n : Nat) : (othersTo f id n).length ≤ n := by
  unfold othersTo
  rw [List.length_map]
  exact Nat.le_trans (List.length_filter_le ..) (by simp)
theorem othersTo_mem {f : Nat → Mail} {id : Int} {n : Nat} {m : Mail} (h : m ∈ othersTo f id n) : ∃ i, i < n ∧ m = f i := by
  unfold othersTo at h
  simp at h
  obtain ⟨i, ⟨h1, _⟩, rfl⟩ := h
  exact ⟨i, h1, rfl⟩
def nextK (x : Node) (i : Nat) : Nat := (x.next.getD i zI_i64 - 1).toNat
def spreads (x : Node) (n : Nat) : List Mail := othersTo (fun i => spreadM x i (nextK x i)) x.id n
noncomputable def spreadNode (x : Node) : NodeResult := if leadF x ≠ 0 then badN (leadF x) else ⟨0, x, spreads x x.peers.toNat⟩
theorem lastE_take {l : List Entry} {k : Nat} (h : k ≤ l.length) : lastE (l.take k) = if k = 0 then zEntry else l.getD (k - 1) zEntry := by
  unfold lastE
  rw [List.length_take, Nat.min_eq_left h]
  split
  · rfl
  · rw [List.getD_eq_getElem?_getD, List.getElem?_take, if_pos (by omega), ← List.getD_eq_getElem?_getD]
theorem min_cast (a b : Nat) : (if (a : Int) < (b : Int) then (a : Int) else (b : Int)) = ((min a b : Nat) : Int) := by
  split <;> omega
theorem next_ok {x : Node} (h : nodeFault x = 0) (hr : x.role = 2) {i : Nat} (hi : (i : Int) < x.peers) : i < x.next.length ∧ i < x.match_.length ∧ x.next.getD i zI_i64 = (nextK x i : Int) + 1 ∧ nextK x i ≤ x.log.length ∧ (0 ≤ x.match_.getD i zI_i64 ∧ x.match_.getD i zI_i64 ≤ x.log.length) := by
  obtain ⟨l1, l2⟩ := node_lead h hr
  have h1 := (node_ok h).2.2.2.2.2.1
  have h2 := (node_ok h).2.2.2.2.2.2.1
  have e1 := h1 i (by omega)
  have e2 := h2 i (by omega)
  unfold inR at e1 e2
  simp only [Bool.and_eq_true, decide_eq_true_eq] at e1 e2
  unfold nextK
  exact ⟨by omega, by omega, by omega, by omega, e2⟩
attribute [go_sem] mnxI
theorem take_drop_take {α : Type} (l : List α) (a k : Nat) : List.take (a - k) (List.drop k (List.take a l)) = List.drop k (List.take a l) := List.take_of_length_le (by simp; omega)
attribute [go_sem] take_drop_take
theorem spreads0 (x : Node) : spreads x 0 = [] := rfl
theorem othersTo0 (f : Nat → Mail) (id : Int) : othersTo f id 0 = [] := rfl
attribute [go_sem] spreads0 othersTo0
theorem spreads_len (x : Node) (n : Nat) : (spreads x n).length ≤ n := othersTo_len ..
theorem spreads_succ {x : Node} {n : Nat} (h : (n : Int) ≠ x.id) : spreads x (n + 1) = spreads x n ++ [spreadM x n (nextK x n)] := othersTo_succ _ h
theorem spreads_skip {x : Node} {n : Nat} (h : (n : Int) = x.id) : spreads x (n + 1) = spreads x n := othersTo_skip _ h
theorem leadF_ok0 {x : Node} (h1 : nodeFault x = 0) (h2 : x.role = 2) : leadF x = 0 := by
  unfold leadF; rw [if_neg (by omega), if_neg (by omega)]
theorem spread_lim {b : Nat} (hb : 5 ≤ b) {x : Node} (h : limN b x) : limR b (spreadNode x) := by
  unfold spreadNode
  split
  · exact lim_badN
  · rename_i h0
    obtain ⟨nf, nr⟩ := leadF_ok (x := x) (by omega)
    have hp := (node_ok nf).1
    refine ⟨h, Nat.le_trans (spreads_len _ _) (by omega), fun m hm => ?_⟩
    obtain ⟨i, _, rfl⟩ := othersTo_mem hm
    unfold limM spreadM
    have := h.1
    simp
    omega
theorem spread_commit (x : Node) : (spreadNode x).node.commit ≤ (spreadNode x).node.log.length := by
  unfold spreadNode
  split
  · simp [badN, zNode]
  · exact (node_ok (leadF_ok (x := x) (by omega)).1).2.2.2.1.2
theorem spread_id {x : Node} (h : (spreadNode x).code = 0) : (spreadNode x).node.id = x.id := by
  unfold spreadNode at *
  grind [badN]
attribute [go_sem] isZ bnd
theorem toNat0 : Int.toNat 0 = 0 := rfl
theorem toNat_subN (a b : Nat) : ((a : Int) - (b : Int)).toNat = a - b := by omega
theorem toNat_addN (a b : Nat) : ((a : Int) + (b : Int)).toNat = a + b := by omega
theorem toNat_subNN (a b c : Nat) : ((a : Int) - ((b : Int) + (c : Int))).toNat = a - (b + c) := by omega
theorem toNat_addNN (a b c : Nat) : ((a : Int) + (b : Int) + (c : Int)).toNat = a + b + c := by omega
attribute [go_sem] toNat0 toNat_subN toNat_addN toNat_subNN toNat_addNN Int.sub_zero Int.add_zero Int.zero_add
theorem del_rows {α : Type} (f : α → List T) (xs : List α) {i j : Nat} (hij : i ≤ j) (hj : j ≤ xs.length) (J Z R : List (List T)) : List.take (i + (xs.length - j)) (List.take (i + (xs.length - j)) ((xs.take i ++ xs.drop j).map f ++ J) ++ Z ++ R) = (xs.take i ++ xs.drop j).map f := by
  have hl : ((xs.take i ++ xs.drop j).map f).length = i + (xs.length - j) := by simp; omega
  rw [← hl, List.take_left, List.append_assoc, List.take_left]
theorem del_rowsR (R : List (List T)) {i j : Nat} (hij : i ≤ j) (hj : j ≤ R.length) (J Z Q : List (List T)) : List.take (i + (R.length - j)) (List.take (i + (R.length - j)) (R.take i ++ R.drop j ++ J) ++ Z ++ Q) = R.take i ++ R.drop j := by
  have hl : (R.take i ++ R.drop j).length = i + (R.length - j) := by simp; omega
  rw [← hl, List.take_left, List.append_assoc, List.take_left]
theorem junk_drop {α : Type} (J : List T) (f : α → List T) (xs : List α) (n : Nat) : List.drop (n + 1) (List.replicate n J ++ List.map f (List.drop n xs)) = List.map f (List.drop (n + 1) xs) := by
  rw [List.drop_append, List.drop_of_length_le (by simp), List.nil_append, List.length_replicate, ← List.map_drop, List.drop_drop]
  congr 2
  omega
theorem take_drop_len {α : Type} (xs : List α) (k : Nat) : List.take (xs.length - k) (List.drop k xs) = List.drop k xs := List.take_of_length_le (by simp)
attribute [go_sem] junk_drop take_drop_len
def without (x : Cluster) (n : Nat) : Cluster := { x with mails := x.mails.take n ++ x.mails.drop (n + 1) }
noncomputable def dropMail (x : Cluster) (p : Int) : ClusterResult := if mailGuard x p ≠ 0 then bad (mailGuard x p) else ⟨0, without x p.toNat⟩
theorem set_without {α : Type} (f : α → List T) (xs : List α) (n : Nat) (r : List T) : List.take n ((xs.map f).set n r) ++ List.drop (n + 1) ((xs.map f).set n r) = (xs.take n ++ xs.drop (n + 1)).map f := by
  rw [List.take_set_of_le (Nat.le_refl _), List.drop_set_of_lt (Nat.lt_succ_self _), List.map_append, List.map_take, List.map_drop]
theorem dropMail_lim {x : Cluster} (h : limC 1048576 x) (p : Int) : limC 2097152 (dropMail x p).cluster := by
  unfold dropMail
  split
  · exact lim_bad
  · obtain ⟨⟨a1, a2⟩, ⟨b1, b2⟩, c1, d1⟩ := limC_mono (c := 2097152) (by omega) h
    refine ⟨⟨a1, a2⟩, ⟨by simp [without]; omega, fun y hy => b2 y ?_⟩, c1, d1⟩
    rcases List.mem_append.1 hy with hy | hy
    · exact List.mem_of_mem_take hy
    · exact List.mem_of_mem_drop hy
theorem roRows_Mail (o : Bool) (xs : List Mail) : roRows (xs.map (eMail o)) = xs.map (eMail false) := roRows_map _ _ (fun _ => rfl) xs
theorem toNat_sub1N (a b : Nat) : ((a : Int) - ((b : Int) + 1)).toNat = a - (b + 1) := by omega
attribute [go_sem] roRows_Mail toNat_sub1N
def eClusterM (o : Bool) (x : Cluster) : List T := [.sl o 10 (x.nodes.map (eNode o)), .sl o 9 (x.mails.map (eMail false)), .sl o 2 (x.wins.map eWon), .sl o 10 (x.seals.map eSeal)]
attribute [go_sem] eClusterM
attribute [go_sem] false_and and_false
def followed (x : Node) : Node := { x with role := 0, votes := [], next := [], match_ := [] }
def led (x : Node) : Node := { x with role := 2, votes := [], next := List.replicate x.peers.toNat ((x.log.length : Int) + 1), match_ := (List.replicate x.peers.toNat 0).set x.id.toNat x.log.length }
def leadOf (x : Node) : Node := agreed (led x)
def asking (x : Node) : Node := { x with term := x.term + 1, voted := x.id, role := 1, votes := [x.id] }
def voteM (x : Node) (i : Nat) : Mail := ⟨1, x.id, i, x.term + 1, x.log.length, (lastE x.log).term, 0, false, []⟩
def votesTo (x : Node) (n : Nat) : List Mail := othersTo (voteM x) x.id n
noncomputable def timeoutNode (x : Node) : NodeResult :=
  if nodeFault x ≠ 0 then badN (nodeFault x) else if x.role = 2 then badN 10 else if x.term = 100000 then badN 3 else
  ⟨0, if quor x 1 then leadOf (asking x) else asking x, votesTo x x.peers.toNat⟩
theorem votes0 (x : Node) : votesTo x 0 = [] := rfl
attribute [go_sem] votes0
theorem votes_len (x : Node) (n : Nat) : (votesTo x n).length ≤ n := othersTo_len ..
theorem votes_succ {x : Node} {n : Nat} (h : (n : Int) ≠ x.id) : votesTo x (n + 1) = votesTo x n ++ [voteM x n] := othersTo_succ _ h
theorem votes_skip {x : Node} {n : Nat} (h : (n : Int) = x.id) : votesTo x (n + 1) = votesTo x n := othersTo_skip _ h
theorem cntGe_led {m : Nat} {j : Nat} {v i : Int} (hi : 0 < i) : cntGe ((List.replicate m 0).set j v) i ≤ 1 := by
  unfold cntGe
  induction m generalizing j with
  | zero => simp
  | succ m ih =>
    rw [List.replicate_succ]
    cases j with
    | zero => rw [List.set_cons_zero, List.countP_cons, List.countP_replicate]; split <;> split <;> simp_all <;> omega
    | succ j => rw [List.set_cons_succ, List.countP_cons]; have := ih (j := j); split <;> simp_all <;> omega
theorem agreed_led {x : Node} (h : quor x 1 = false) (h0 : 0 ≤ x.commit) (h1 : x.commit ≤ x.log.length) : leadOf x = led x := by
  have hag : ∀ n : Nat, x.commit.toNat ≤ n → agN (led x) x.commit.toNat n = x.commit.toNat := by
    intro n
    induction n with
    | zero => intro h; rw [agN]
    | succ n ih =>
      intro h'
      rw [agN]
      split
      · rfl
      · rw [if_neg, ih (by omega)]
        unfold agOk
        have hc : cntGe (led x).match_ ((n + 1 : Nat) : Int) ≤ 1 := cntGe_led (by omega)
        have : quor (led x) (cntGe (led x).match_ ((n + 1 : Nat) : Int)) = false := by
          generalize cntGe (led x).match_ ((n + 1 : Nat) : Int) = c at hc ⊢
          unfold quor at h ⊢
          rw [show (led x).peers = x.peers from rfl]
          simp only [decide_eq_false_iff_not] at h ⊢
          omega
        rw [this]
        simp
  unfold leadOf agreed agI
  rw [show (led x).commit = x.commit from rfl, hag _ (by simp [led]; omega)]
  have : ((x.commit.toNat : Nat) : Int) = x.commit := by omega
  rw [this]
  rfl
theorem timeout_lim {b : Nat} (hb : 5 ≤ b) {x : Node} (h : limN b x) : limR b (timeoutNode x) := by
  unfold timeoutNode
  split
  · exact lim_badN
  split
  · exact lim_badN
  split
  · exact lim_badN
  rename_i h0 _ _
  have hp := (node_ok (x := x) (by omega)).1
  refine ⟨?_, Nat.le_trans (votes_len _ _) (by omega), fun m hm => ?_⟩
  · have := h.1
    split
    · refine ⟨by simpa [leadOf, agreed, led, asking] using h.1, by simp [leadOf, agreed, led, asking], ?_, ?_⟩ <;> simp [leadOf, agreed, led, asking] <;> omega
    · refine ⟨h.1, by simp [asking]; omega, h.2.2.1, h.2.2.2⟩
  · obtain ⟨i, _, rfl⟩ := othersTo_mem hm
    simp [limM, voteM]
theorem timeout_commit (x : Node) : (timeoutNode x).node.commit ≤ (timeoutNode x).node.log.length := by
  unfold timeoutNode
  split
  · simp [badN, zNode]
  split
  · simp [badN, zNode]
  split
  · simp [badN, zNode]
  rename_i h0 _ _
  have hc := (node_ok (x := x) (by omega)).2.2.2.1
  split
  · have := agN_bd (led (asking x)) (c := x.commit.toNat) (n := x.log.length) (by omega)
    show agI (led (asking x)) ≤ _
    unfold agI
    simp only [leadOf, agreed, led, asking] at this ⊢
    omega
  · exact hc.2
theorem timeout_id {x : Node} (h : (timeoutNode x).code = 0) : (timeoutNode x).node.id = x.id := by
  unfold timeoutNode at *
  grind [badN, leadOf, agreed, led, asking]
def repV (v : Int) (k n : Nat) : List (List T) := List.replicate k [.int .i64 v] ++ List.replicate (n - k) [.int .i64 0]
def repVer (k : Nat) : Nat := if k ≤ 2 then k + 1 else if k ≤ 4 then 4 else 5
theorem repV_len {v : Int} {k n : Nat} (h : k ≤ n) : (repV v k n).length = n := by simp [repV]; omega
theorem repV_step {v : Int} {k n : Nat} (h : k ≤ n) : (repV v k n).take k ++ ((repV v k n).take k).take (min (n - k) k) ++ (repV v k n).drop (k + min (n - k) k) = repV v (k + min (n - k) k) n := by
  unfold repV
  rw [List.take_left' (by simp), List.take_replicate, List.drop_append, List.drop_replicate, List.drop_replicate, List.length_replicate, show k - (k + min (n - k) k) = 0 by omega, List.replicate_zero, List.nil_append, List.replicate_append_replicate]
  congr 2 <;> omega
theorem repV_all {v : Int} {n : Nat} : repV v n n = (List.replicate n v).map eI_i64 := by simp [repV, eI_i64]
theorem cpRows_repV {d : Dep} {v : Int} {k n : Nat} (m : Nat) : cpRows d ((repV v k n).take m) = True := by
  have : ∀ r ∈ (repV v k n).take m, ∃ u : Int, r = [.int .i64 u] := by
    intro r hr
    have := List.mem_of_mem_take hr
    simp [repV] at this
    rcases this with ⟨_, rfl⟩ | ⟨_, rfl⟩ <;> exact ⟨_, rfl⟩
  apply eq_true
  unfold cpRows
  cases d <;> (intro r hr t ht; obtain ⟨u, rfl⟩ := this r hr; simp at ht; subst ht; simp [T.solid, T.flat])
theorem ro1 (v : Int) : roRows [[T.int .i64 v]] = [[T.int .i64 v]] := rfl
theorem repV_0 {v : Int} {n : Nat} (h : 1 ≤ n) : List.take 1 [[T.int .i64 v]] ++ List.drop 1 (List.replicate n [T.int .i64 0]) = repV v 1 n := by
  simp [repV]
attribute [go_sem] ro1 cpRows_repV Int.one_mul
theorem rep_I (n : Nat) (v : Int) : List.replicate n [T.int .i64 v] = (List.replicate n v).map eI_i64 := by simp [eI_i64]
theorem take_set_rep {α : Type} (n i : Nat) (a b : α) : List.take n ((List.replicate n a).set i b) = (List.replicate n a).set i b := List.take_of_length_le (by simp)
attribute [go_sem] take_set_rep
theorem rep_snoc {α : Type} (n : Nat) (a : α) : List.replicate n a ++ [a] = a :: List.replicate n a := by rw [← List.replicate_succ', List.replicate_succ]
theorem ins_grow {α : Type} {R V Z D D' J : List α} {i N a b c : Nat} (hi : i ≤ R.length) (hN : N = R.length + V.length) (ha : a = i + V.length) (hb : V.length ≤ b) (hc : c = R.length - i) :
    List.take N (List.take a (List.take i (List.take i R ++ Z) ++ List.take b V ++ D) ++ List.take c (List.drop i (R ++ J)) ++ D') = List.take i R ++ V ++ List.drop i R := by
  rw [List.take_left' (by simp; omega), List.take_of_length_le hb, List.take_left' (by simp; omega), List.drop_append_of_le_length hi, List.take_left' (l₁ := List.drop i R) (by simp; omega), List.take_left' (by simp; omega)]
theorem ins_room {α : Type} {R V D J : List α} {i N a a2 b c : Nat} (hi : i ≤ R.length) (hJ : R.length + V.length ≤ (R ++ J).length) (hN : N = R.length + V.length) (ha : a = i + V.length) (ha2 : a2 = i + V.length) (hb : V.length ≤ b) (hc : c = R.length - i) :
    List.take N (List.take i (List.take a (R ++ J) ++ List.take c (List.drop i (R ++ J)) ++ D) ++ List.take b V ++ List.drop a2 (List.take a (R ++ J) ++ List.take c (List.drop i (R ++ J)) ++ D)) = List.take i R ++ V ++ List.drop i R := by
  have e1 : List.take i (List.take a (R ++ J) ++ List.take c (List.drop i (R ++ J)) ++ D) = List.take i R := by
    rw [List.append_assoc, List.take_append_of_le_length (by simp only [List.length_take]; omega), List.take_take, Nat.min_eq_left (by omega), List.take_append_of_le_length hi]
  have e2 : List.drop a2 (List.take a (R ++ J) ++ List.take c (List.drop i (R ++ J)) ++ D) = List.drop i R ++ D := by
    rw [List.append_assoc, List.drop_left' (by simp only [List.length_take]; omega), List.drop_append_of_le_length hi, List.take_left' (l₁ := List.drop i R) (by simp; omega)]
  rw [e1, e2, List.take_of_length_le hb, ← List.append_assoc, List.take_left' (by simp; omega)]
def lbn (xs : List Int) (v : Int) : Nat := (xs.takeWhile fun x => decide (x < v)).length
theorem lbn_eq : ∀ {xs : List Int} {v : Int} {i : Nat}, i ≤ xs.length → (∀ p, p < i → xs.getD p zI_i64 < v) → (i < xs.length → v ≤ xs.getD i zI_i64) → lbn xs v = i
  | [], v, i, h, _, _ => by simp at h; subst h; rfl
  | x :: xs, v, 0, _, _, h2 => by
    have := h2 (by simp)
    simp at this
    unfold lbn
    rw [List.takeWhile_cons_of_neg (by simp; omega)]
    rfl
  | x :: xs, v, i + 1, h, h1, h2 => by
    have h0 := h1 0 (by omega)
    simp at h0
    have ih := lbn_eq (xs := xs) (v := v) (i := i) (by simpa using h) (fun p hp => by simpa using h1 (p + 1) (by omega)) (fun hi => by simpa using h2 (by simpa using hi))
    unfold lbn at ih ⊢
    rw [List.takeWhile_cons_of_pos (by simpa using h0), List.length_cons, ih]
def hasI (xs : List Int) (v : Int) : Bool := decide (lbn xs v < xs.length) && decide (xs.getD (lbn xs v) zI_i64 = v)
theorem rises_lt {xs : List Int} (h : rises xs) {i : Nat} : ∀ {j : Nat}, i < j → j < xs.length → xs.getD i zI_i64 < xs.getD j zI_i64
  | 0, h1, _ => by omega
  | j + 1, h1, h2 => by
    have e := h (j + 1) (by omega) h2
    simp only [Nat.add_sub_cancel] at e
    by_cases hij : i = j
    · subst hij; exact e
    · have := rises_lt h (i := i) (j := j) (by omega) (by omega)
      omega
theorem lbn_le (xs : List Int) (v : Int) : lbn xs v ≤ xs.length := List.takeWhile_sublist _ |>.length_le
def riseL (xs : List Int) (v : Int) : List Int := if hasI xs v then xs else xs.take (lbn xs v) ++ [v] ++ xs.drop (lbn xs v)
theorem half_nat (a b : Nat) (h : a + b < 9223372036854775808) : ((a : Int) + b).fdiv (2 ^ min (Int.toNat 1) 64) = (((a + b) / 2 : Nat) : Int) := by
  show ((a : Int) + b).fdiv (2 ^ 1) = _
  rw [← Int.natCast_add]
  rw [Int.fdiv_eq_ediv_of_nonneg _ (by omega)]
  omega
theorem wrap_u (n : Nat) (h : n < 18446744073709551616) : IntKind.u64.wrap (n : Int) = n := by
  show ((n : Int) % 18446744073709551616) = n
  omega
def fitsM (log : List Entry) (index term : Int) : Bool := if index = 0 then decide (term = 0) else inR index 1 log.length && decide ((log.getD (IntKind.i64.wrap (index - 1)).toNat zEntry).term = term)
def upM (log : List Entry) (index term : Int) : Bool := decide ((lastE log).term < term) || (decide (term = (lastE log).term) && decide ((log.length : Int) ≤ index))
theorem inR_idx {index : Int} {n : Nat} (hn : n ≤ 2097152) (h : inR index 1 n = true) : 0 ≤ IntKind.i64.wrap (index - 1) ∧ IntKind.i64.wrap (index - 1) < n := by
  unfold inR at h
  simp only [Bool.and_eq_true, decide_eq_true_eq] at h
  rw [wrap_small (by omega) (by omega)]
  omega
theorem tw_range {p : Nat → Bool} {n : Nat} : ∀ {i : Nat}, i ≤ n → (∀ q, q < i → p q = true) → (i < n → p i = false) → ((List.range n).takeWhile p).length = i := by
  intro i hi h1 h2
  have hs : List.range n = List.range i ++ (List.range (n - i)).map (i + ·) := by
    rw [← List.range_add]; congr 1; omega
  rw [hs, List.takeWhile_append_of_pos (by simpa using h1)]
  simp only [List.length_append, List.length_range]
  cases hn : n - i with
  | zero => simp
  | succ k =>
    rw [List.range_succ_eq_map, List.map_cons, List.takeWhile_cons_of_neg (by simpa using h2 (by omega))]
    simp
def eqEn (x y : Entry) : Bool := decide (x.term = y.term) && (decide (x.client = y.client) && (decide (x.seq = y.seq) && (decide (x.cmd.kind = y.cmd.kind) && (decide (x.cmd.expect = y.cmd.expect) && (decide (x.cmd.name = y.cmd.name) && (decide (x.cmd.addr = y.cmd.addr) && (decide (x.cmd.number = y.cmd.number) && decide (x.cmd.proto = y.cmd.proto))))))))
def commonN (a b : List Entry) : Nat := ((List.range (min a.length b.length)).takeWhile fun n => eqEn (a.getD n zEntry) (b.getD n zEntry)).length
def bad7 (log more : List Entry) (i k : Nat) : Bool := decide (log.length ≤ i + k) || !decide ((log.getD (i + k) zEntry).term = (more.getD k zEntry).term)
def take7K (log more : List Entry) (i : Nat) : Nat := ((List.range more.length).takeWhile fun k => !bad7 log more i k).length
def take7 (log more : List Entry) (i : Nat) : List Entry := if take7K log more i < more.length then log.take (i + take7K log more i) ++ more.drop (take7K log more i) else log
theorem take7_at {log more : List Entry} {i k : Nat} (hk : k < more.length) (hlo : ∀ q, q < k → bad7 log more i q = false) (hb : bad7 log more i k = true) : take7 log more i = log.take (i + k) ++ more.drop k := by
  have e : take7K log more i = k := tw_range (by omega) (fun q hq => by simp [hlo q hq]) (fun _ => by simp [hb])
  unfold take7
  rw [e, if_pos hk]
theorem take7_all {log more : List Entry} {i : Nat} (hlo : ∀ q, q < more.length → bad7 log more i q = false) : take7 log more i = log := by
  have e : take7K log more i = more.length := tw_range (Nat.le_refl _) (fun q hq => by simp [hlo q hq]) (fun h => by omega)
  unfold take7
  rw [e, if_neg (by omega)]
theorem take7_len {log more : List Entry} {i : Nat} (hi : i ≤ log.length) : (take7 log more i).length ≤ log.length + more.length := by
  unfold take7
  split
  · simp; omega
  · omega
def takeR (log more : List Entry) (i : Nat) : EntriesResult := if 40 < (take7 log more i).length then ⟨2, []⟩ else ⟨0, take7 log more i⟩
theorem fits_nat {log : List Entry} {index term : Int} (hl : log.length ≤ 2097152) (h : fitsM log index term = true) : ∃ n : Nat, index = n ∧ n ≤ log.length := by
  unfold fitsM at h
  split at h
  · exact ⟨0, by omega, by omega⟩
  · simp only [Bool.and_eq_true] at h
    have := h.1
    unfold inR at this
    simp only [Bool.and_eq_true, decide_eq_true_eq] at this
    exact ⟨index.toNat, by omega, by omega⟩
def upOk (x : Node) (m : Mail) : Bool := decide (m.term = x.term) && (decide (x.voted = -1) || decide (x.voted = m.from_)) && upM x.log m.index m.last
def votedN (x : Node) (m : Mail) : Node := if upOk x m = true then { x with voted := m.from_ } else x
def grantM (x : Node) (m : Mail) : Mail := ⟨2, x.id, m.from_, x.term, 0, 0, 0, upOk x m, []⟩
def riseN (x : Node) (m : Mail) : Node := { x with votes := riseL x.votes m.from_ }
def grantedN (x : Node) (m : Mail) : Node := if (m.ok && decide (m.term = x.term) && decide (x.role = 1)) = true then (if quor (riseN x m) (riseN x m).votes.length then leadOf (riseN x m) else riseN x m) else x
def baseM (x : Node) (m : Mail) : Mail := ⟨4, x.id, m.from_, x.term, 0, 0, 0, false, []⟩
def takenL (x : Node) (m : Mail) : List Entry := take7 x.log m.entries m.index.toNat
def takenC (x : Node) (m : Mail) : Int := if m.term < x.term then 0 else if x.role = 2 then 10 else if fitsM x.log m.index m.last = false then 0 else if 40 < (takenL x m).length then 2 else if (commonN x.log (takenL x m) : Int) < x.commit then 10 else 0
def takenEnd (m : Mail) : Int := m.index + m.entries.length
def takenOk (x : Node) (m : Mail) : Node := { followed x with log := takenL x m, commit := max x.commit (min m.commit (takenEnd m)) }
def takenN (x : Node) (m : Mail) : Node := if m.term < x.term ∨ x.role = 2 then x else if fitsM x.log m.index m.last = false ∨ takenC x m ≠ 0 then followed x else takenOk x m
def takenM (x : Node) (m : Mail) : Mail := if m.term < x.term ∨ x.role = 2 then baseM x m else if fitsM x.log m.index m.last = false then { baseM x m with index := min (m.index - 1) x.log.length } else if takenC x m ≠ 0 then baseM x m else { baseM x m with ok := true, index := takenEnd m }
def toldT (x : Node) (m : Mail) : Int := if x.match_.getD m.from_.toNat zI_i64 < m.index ∧ m.index ≤ x.log.length then m.index else x.match_.getD m.from_.toNat zI_i64
def toldOk (x : Node) (m : Mail) : Node := { x with match_ := x.match_.set m.from_.toNat (toldT x m), next := x.next.set m.from_.toNat (toldT x m + 1) }
def toldNo (x : Node) (m : Mail) : Node := { x with next := x.next.set m.from_.toNat (max (max 1 (min (x.next.getD m.from_.toNat zI_i64 - 1) (m.index + 1))) (x.match_.getD m.from_.toNat zI_i64 + 1)) }
def toldN (x : Node) (m : Mail) : Node := if ¬ m.term = x.term ∨ ¬ x.role = 2 then x else if m.ok = true then agreed (toldOk x m) else toldNo x m
def newer (x : Node) (m : Mail) : Node := if x.term < m.term then followed { x with term := m.term, voted := -1 } else x
def hear (x : Node) (m : Mail) : NodeResult :=
  if m.kind = 1 then ⟨0, votedN (newer x m) m, [grantM (newer x m) m]⟩ else if m.kind = 2 then ⟨0, grantedN (newer x m) m, []⟩ else if m.kind = 3 then (if takenC (newer x m) m ≠ 0 then badN (takenC (newer x m) m) else ⟨0, takenN (newer x m) m, [takenM (newer x m) m]⟩) else ⟨0, toldN (newer x m) m, []⟩
noncomputable def hearMail (x : Node) (m : Mail) : NodeResult := if nodeFault x ≠ 0 then badN (nodeFault x) else if mailFault x m ≠ 0 then badN (mailFault x m) else hear x m
theorem flat_I (xs : List Int) : ∀ r ∈ xs.map eI_i64, ∀ t ∈ r, t.flat = true := by
  intro r hr t ht
  simp only [List.mem_map] at hr
  obtain ⟨x, _, rfl⟩ := hr
  simp [eI_i64] at ht
  subst ht
  rfl
theorem riseL_len (xs : List Int) (v : Int) : (riseL xs v).length ≤ xs.length + 1 := by
  unfold riseL
  split
  · omega
  · simp; omega
theorem riseL_no {xs : List Int} {v : Int} (h : hasI xs v = false) : (riseL xs v).map eI_i64 = List.take (lbn xs v) (xs.map eI_i64) ++ [[T.int .i64 v]] ++ List.drop (lbn xs v) (xs.map eI_i64) := by
  unfold riseL
  rw [h]
  simp [eI_i64]
theorem riseL_has {xs : List Int} {v : Int} (h : hasI xs v = true) : riseL xs v = xs := by
  unfold riseL
  rw [if_pos h]
theorem told_spec (a b c : Int) : (if (if 1 > (if a < b then a else b) then 1 else if a < b then a else b) > c then (if 1 > (if a < b then a else b) then 1 else if a < b then a else b) else c) = max (max 1 (min a b)) c := by
  repeat' split
  all_goals omega
theorem told_impl (a b c : Int) : (if c > (if (if b < a then b else a) > 1 then (if b < a then b else a) else 1) then c else (if (if b < a then b else a) > 1 then (if b < a then b else a) else 1)) = max (max 1 (min a b)) c := by
  repeat' split
  all_goals omega
theorem min_if (a b : Int) : (if a < b then a else b) = min a b := by split <;> omega
theorem max_if (a b : Int) : (if a > b then a else b) = max a b := by split <;> omega
theorem min_fi (a b : Int) : (if b < a then b else a) = min a b := by split <;> omega
theorem max_fi (a b : Int) : (if b > a then b else a) = max a b := by split <;> omega
theorem taken0 {x : Node} {m : Mail} (h : m.term < x.term) : takenN x m = x ∧ takenM x m = baseM x m ∧ takenC x m = 0 := by
  unfold takenN takenM takenC
  simp [h]
theorem taken1 {x : Node} {m : Mail} (h0 : ¬ m.term < x.term) (h : x.role = 2) : takenN x m = x ∧ takenM x m = baseM x m ∧ takenC x m = 10 := by
  unfold takenN takenM takenC
  simp [h0, h]
theorem taken2 {x : Node} {m : Mail} (h0 : ¬ m.term < x.term) (h : ¬ x.role = 2) (h2 : fitsM x.log m.index m.last = false) : takenN x m = followed x ∧ takenM x m = { baseM x m with index := min (m.index - 1) x.log.length } ∧ takenC x m = 0 := by
  unfold takenN takenM takenC
  simp [h0, h, h2]
theorem taken3 {x : Node} {m : Mail} (h0 : ¬ m.term < x.term) (h : ¬ x.role = 2) (h2 : fitsM x.log m.index m.last = true) (h3 : 40 < (takenL x m).length) : takenN x m = followed x ∧ takenM x m = baseM x m ∧ takenC x m = 2 := by
  have hc : takenC x m = 2 := by unfold takenC; simp [h0, h, h2, h3]
  unfold takenN takenM
  simp [h0, h, h2, hc]
theorem taken4 {x : Node} {m : Mail} (h0 : ¬ m.term < x.term) (h : ¬ x.role = 2) (h2 : fitsM x.log m.index m.last = true) (h3 : ¬ 40 < (takenL x m).length) (h4 : (commonN x.log (takenL x m) : Int) < x.commit) : takenN x m = followed x ∧ takenM x m = baseM x m ∧ takenC x m = 10 := by
  have hc : takenC x m = 10 := by unfold takenC; simp [h0, h, h2, h3, h4]
  unfold takenN takenM
  simp [h0, h, h2, hc]
theorem taken5 {x : Node} {m : Mail} (h0 : ¬ m.term < x.term) (h : ¬ x.role = 2) (h2 : fitsM x.log m.index m.last = true) (h3 : ¬ 40 < (takenL x m).length) (h4 : ¬ (commonN x.log (takenL x m) : Int) < x.commit) : takenN x m = takenOk x m ∧ takenM x m = { baseM x m with ok := true, index := takenEnd m } ∧ takenC x m = 0 := by
  have hc : takenC x m = 0 := by unfold takenC; simp [h0, h, h2, h3, h4]
  unfold takenN takenM
  simp [h0, h, h2, hc]
theorem takeR_bad {log more : List Entry} {i : Nat} (h : ¬ (takeR log more i).code = 0) : 40 < (take7 log more i).length ∧ takeR log more i = ⟨2, []⟩ := by
  unfold takeR at h ⊢
  split at h
  · rename_i h4; exact ⟨h4, if_pos h4⟩
  · simp at h
theorem takeR_ok {log more : List Entry} {i : Nat} (h : (takeR log more i).code = 0) : ¬ 40 < (take7 log more i).length ∧ takeR log more i = ⟨0, take7 log more i⟩ := by
  unfold takeR at h ⊢
  split at h
  · simp at h
  · rename_i h4; exact ⟨h4, if_neg h4⟩
theorem mail_ok {x : Node} {m : Mail} (hp : 1 ≤ x.peers ∧ x.peers ≤ 5) (h : mailFault x m = 0) : (1 ≤ m.kind ∧ m.kind ≤ 4) ∧ (0 ≤ m.from_ ∧ m.from_ < x.peers) ∧ (1 ≤ m.term ∧ m.term ≤ 100000) ∧ (0 ≤ m.index ∧ m.index ≤ 40) ∧ (0 ≤ m.commit ∧ m.commit ≤ 40) ∧ logFault m.entries = 0 ∧ (0 < m.entries.length → m.last ≤ (m.entries.getD 0 zEntry).term) := by
  unfold mailFault at h
  split at h
  · cases h
  rename_i g1
  split at h
  · cases h
  rename_i g2
  split at h
  · rename_i g3; exact absurd h g3
  rename_i g3
  split at h
  · cases h
  rename_i g4
  have g1 : inR m.kind 1 4 = true := by simpa using g1
  have g2 : mailRange x m = true := by simpa using g2
  have g4 : mailForm m := by simpa using g4
  unfold mailRange isId inR at g2
  unfold inR at g1
  simp only [Bool.and_eq_true, decide_eq_true_eq] at g1 g2
  obtain ⟨⟨⟨⟨⟨⟨a1, a2⟩, a3⟩, a4⟩, a5⟩, a6⟩, a7⟩ := g2
  rw [wrap_small (by omega) (by omega)] at a1
  refine ⟨g1, ⟨a1.1, by omega⟩, a4, a5, a7, by simpa using g3, fun h0 => (g4.1 h0).2.2⟩
theorem rises_ge {xs : List Int} (h : rises xs) {b : Int} (h0 : ∀ i, i < xs.length → b ≤ xs.getD i zI_i64) : ∀ {i : Nat}, i < xs.length → b + i ≤ xs.getD i zI_i64
  | 0, hi => by simpa using h0 0 hi
  | i + 1, hi => by
    have e := h (i + 1) (by omega) hi
    have ih := rises_ge h h0 (i := i) (by omega)
    simp only [Nat.add_sub_cancel] at e
    omega
theorem votes_few {x : Node} (h : nodeFault x = 0) : rises x.votes ∧ x.votes.length ≤ 5 := by
  obtain ⟨⟨p1, p2, _⟩, _, _, _, hl, _⟩ := node_ok h
  refine ⟨hl.1, ?_⟩
  have hid := hl.2.2.1
  have hin : ∀ i, i < x.votes.length → 0 ≤ x.votes.getD i zI_i64 ∧ x.votes.getD i zI_i64 < x.peers := by
    intro i hi
    have := hid i hi
    unfold isId inR at this
    simp only [Bool.and_eq_true, decide_eq_true_eq] at this
    rw [wrap_small (by omega) (by omega)] at this
    omega
  cases hn : x.votes.length with
  | zero => omega
  | succ n =>
    have h1 := rises_ge hl.1 (b := 0) (fun i hi => (hin i hi).1) (i := n) (by omega)
    have h2 := (hin n (by omega)).2
    omega
structure HearOk (y : Node) (m : Mail) : Prop where
  lim : limN 2097152 y
  c0 : 0 ≤ y.commit
  c1 : y.commit ≤ y.log.length
  p1 : 1 ≤ y.peers
  p2 : y.peers ≤ 5
  p3 : 0 ≤ y.id
  p4 : y.id < y.peers
  rv : rises y.votes
  nv : y.votes.length ≤ 100
  lf : logFault y.log = 0
  tl : y.role = 2 → m.from_.toNat < y.next.length ∧ m.from_.toNat < y.match_.length ∧ 1 ≤ y.next.getD m.from_.toNat zI_i64 ∧ y.next.getD m.from_.toNat zI_i64 ≤ 41 ∧ 0 ≤ y.match_.getD m.from_.toNat zI_i64 ∧ y.match_.getD m.from_.toNat zI_i64 ≤ 40
theorem hear_ok {x : Node} {m : Mail} (hx : limN 2097152 x) (h : nodeFault x = 0) (hm : mailFault x m = 0) : HearOk (newer x m) m := by
  obtain ⟨⟨p1, p2, p3, p4, _⟩, lf, _, ⟨c0, c1⟩, _⟩ := node_ok h
  obtain ⟨v1, v2⟩ := votes_few h
  obtain ⟨_, ⟨f1, f2⟩, _⟩ := mail_ok ⟨p1, p2⟩ hm
  have hll := log_le lf
  unfold newer
  split
  · exact ⟨⟨hx.1, by simp [followed], by simp [followed], by simp [followed]⟩, c0, c1, p1, p2, p3, p4, by intro i h1 h2; simp [followed] at h2, by simp [followed], lf, by intro h; simp [followed] at h⟩
  · refine ⟨hx, c0, c1, p1, p2, p3, p4, v1, by omega, lf, fun hr => ?_⟩
    obtain ⟨n1, n2, n3, n4, n5, n6⟩ := next_ok h hr (i := m.from_.toNat) (by omega)
    exact ⟨n1, n2, by omega, by omega, n5, by omega⟩
theorem newer_lim {b : Nat} {x : Node} {m : Mail} (h : limN b x) : limN b (newer x m) := by
  unfold newer
  split
  · exact ⟨h.1, by simp [followed], by simp [followed], by simp [followed]⟩
  · exact h
theorem lead_lim {b : Nat} (hb : 5 ≤ b) {x : Node} (h : limN b x) (hp : x.peers ≤ 5) : limN b (leadOf x) := by
  refine ⟨by simpa [leadOf, agreed, led] using h.1, by simp [leadOf, agreed, led], ?_, ?_⟩ <;> simp [leadOf, agreed, led] <;> omega
theorem takenN_lim {b : Nat} (hb : 200 ≤ b) {y : Node} {m : Mail} (h : limN b y) (hc : takenC y m = 0) : limN b (takenN y m) := by
  have hf : limN b (followed y) := ⟨h.1, by simp [followed], by simp [followed], by simp [followed]⟩
  unfold takenN
  split
  · exact h
  · rename_i h0
    split
    · exact hf
    · rename_i h1
      have hl : (takenL y m).length ≤ 40 := by
        by_cases h4 : 40 < (takenL y m).length
        · exfalso
          revert hc
          unfold takenC
          have g1 : ¬ m.term < y.term := fun e => h0 (.inl e)
          have g2 : ¬ y.role = 2 := fun e => h0 (.inr e)
          have g3 : ¬ fitsM y.log m.index m.last = false := fun e => h1 (.inl e)
          simp [g1, g2, g3, h4]
        · omega
      exact ⟨by simp only [takenOk]; omega, hf.2.1, hf.2.2.1, hf.2.2.2⟩
theorem takenM_entries (y : Node) (m : Mail) : (takenM y m).entries = [] := by
  unfold takenM
  repeat' split
  all_goals rfl
theorem hear_lim {b : Nat} (hb : 200 ≤ b) {x : Node} {m : Mail} (h : limN b x) (hb2 : b ≤ 2097152) : limR b (hearMail x m) := by
  unfold hearMail
  split
  · exact lim_badN
  split
  · exact lim_badN
  rename_i h0 h1
  have K := hear_ok (x := x) (m := m) ⟨by have := h.1; omega, by have := h.2.1; omega, by have := h.2.2.1; omega, by have := h.2.2.2; omega⟩ (by omega) (by omega)
  have hy : limN b (newer x m) := newer_lim h
  unfold hear
  generalize newer x m = y at K hy ⊢
  have hr := riseL_len y.votes m.from_
  have hnv := K.nv
  have hri : limN b (riseN y m) := ⟨hy.1, by simp only [riseN]; omega, hy.2.2.1, hy.2.2.2⟩
  split
  · refine ⟨?_, by simp; omega, fun z hz => ?_⟩
    · show limN b (votedN y m)
      unfold votedN
      split
      · exact hy
      · exact hy
    · simp only [List.mem_singleton] at hz
      subst hz
      simp [limM, grantM]
  split
  · refine ⟨?_, by simp, by simp⟩
    show limN b (grantedN y m)
    unfold grantedN
    split
    · split
      · exact lead_lim (by omega) hri K.p2
      · exact hri
    · exact hy
  split
  · split
    · exact lim_badN
    · rename_i hc
      refine ⟨takenN_lim hb hy (by simpa using hc), by simp; omega, fun z hz => ?_⟩
      simp only [List.mem_singleton] at hz
      subst hz
      simp [limM, takenM_entries]
  · refine ⟨?_, by simp, by simp⟩
    show limN b (toldN y m)
    unfold toldN
    split
    · exact hy
    · split
      · refine ⟨hy.1, hy.2.1, ?_, ?_⟩
        · simpa [agreed, toldOk] using hy.2.2.1
        · simpa [agreed, toldOk] using hy.2.2.2
      · refine ⟨hy.1, hy.2.1, ?_, hy.2.2.2⟩
        simpa [toldNo] using hy.2.2.1
theorem law_n_bd {x : Node} (h : limN 2097152 x) (k : Int) : sN1 x k ≤ k + 30000000 := by
  obtain ⟨h1, h2, h3, h4⟩ := h
  have e1 := mkE_bd x.log k
  have e2 := mkI_bd x.votes (mkK sE x.log k)
  have e3 := mkI_bd x.next (mkK sI x.votes (mkK sE x.log k))
  have e4 := mkI_bd x.match_ (mkK sI x.next (mkK sI x.votes (mkK sE x.log k)))
  unfold sN1
  omega
theorem law_r_bd {r : NodeResult} (h : limR 2097152 r) : mkK sM r.send (sN1 r.node 1) ≤ 9000000000000000000 := by
  obtain ⟨h1, h2, h3⟩ := h
  have e1 := law_n_bd h1 1
  have e2 := mkK_bd (s := sM) (c := 30000000) (by omega) (xs := r.send) (k := sN1 r.node 1) fun y hy k => sM_bd (h3 y hy) k
  omega
theorem law_m_bd {x : Node} {m : Mail} (h : limN 2097152 x) (hm : limM 2097152 m) : sN1 x 1 ≤ 9000000000000000000 ∧ mkK sE m.entries (sN1 x 1) ≤ 9000000000000000000 := by
  have e1 := law_n_bd h 1
  have e2 := mkE_bd m.entries (sN1 x 1)
  unfold limM at hm
  omega
theorem law_up (x : Node) (m : Mail) (r : NodeResult) : 1 ≤ sN1 x 1 ∧ 1 ≤ mkK sE m.entries (sN1 x 1) ∧ 1 ≤ mkK sM r.send (sN1 r.node 1) := by
  have e1 := sN1_up x 1
  have e2 := mkK_mono sE_up m.entries (sN1 x 1)
  have e3 := sN1_up r.node 1
  have e4 := mkK_mono sM_up r.send (sN1 r.node 1)
  omega
theorem mkL_take {α : Type} (f : α → Int → α) (s : α → Int → Int) (xs : List α) (k : Int) : List.take xs.length (mkL f s xs k) = mkL f s xs k := List.take_of_length_le (by rw [mkL_length]; exact Nat.le_refl _)
noncomputable def deliverMail (x : Cluster) (p : Int) : ClusterResult := if mailGuard x p ≠ 0 then bad (mailGuard x p) else doR (without x p.toNat) (x.mails.getD p.toNat zMail).to_.toNat (hearMail (x.nodes.getD (x.mails.getD p.toNat zMail).to_.toNat zNode) (x.mails.getD p.toNat zMail))
theorem cl_mail {x : Cluster} (h : clusterFault x = 0) {n : Nat} (hn : n < x.mails.length) : ∃ i : Nat, (x.mails.getD n zMail).to_ = i ∧ i < x.nodes.length ∧ mailFault (x.nodes.getD i zNode) (x.mails.getD n zMail) = 0 := by
  have hs : scan (mailAt x) x.mails.length 0 = 0 := by unfold clusterFault at h; grind
  have h1 := scan_zero.1 hs n hn
  rw [mailAt_eq] at h1
  split at h1
  · cases h1
  · rename_i hp
    have hp2 : place x (x.mails.getD n zMail).to_ = true := by
      cases hq : place x (x.mails.getD n zMail).to_
      · exact absurd hq hp
      · rfl
    have h2 := place_iff.1 hp2
    exact ⟨(x.mails.getD n zMail).to_.toNat, by omega, by omega, h1⟩
theorem first_bad (p : Nat → Bool) : ∀ (n : Nat), ∃ k, k ≤ n ∧ (∀ q, q < k → p q = true) ∧ (k < n → p k = false)
  | 0 => ⟨0, Nat.le_refl _, fun q h => by omega, fun h => by omega⟩
  | n + 1 => by
    obtain ⟨k, h1, h2, h3⟩ := first_bad p n
    rcases Nat.lt_or_ge k n with h | h
    · exact ⟨k, by omega, h2, fun _ => h3 h⟩
    · obtain rfl : k = n := by omega
      cases hp : p k with
      | false => exact ⟨k, by omega, h2, fun _ => hp⟩
      | true =>
        refine ⟨k + 1, Nat.le_refl _, fun q hq => ?_, fun h => by omega⟩
        rcases Nat.lt_or_ge q k with h4 | h4
        · exact h2 q h4
        · obtain rfl : q = k := by omega
          exact hp
theorem take7_ge {log more : List Entry} {i : Nat} (hi : i ≤ log.length) : i + more.length ≤ (take7 log more i).length := by
  obtain ⟨k, h1, h2, h3⟩ := first_bad (fun k => !bad7 log more i k) more.length
  have hlo : ∀ q, q < k → bad7 log more i q = false := fun q hq => by simpa using h2 q hq
  have hik : i + k ≤ log.length := by
    cases k with
    | zero => omega
    | succ k =>
      have := hlo k (by omega)
      unfold bad7 at this
      simp only [Bool.or_eq_false_iff, decide_eq_false_iff_not] at this
      omega
  rcases Nat.lt_or_ge k more.length with h | h
  · rw [take7_at h hlo (by simpa using h3 h)]
    simp
    omega
  · obtain rfl : k = more.length := by omega
    rw [take7_all hlo]
    omega
theorem commonN_le (a b : List Entry) : commonN a b ≤ b.length := by
  unfold commonN
  have := (List.takeWhile_prefix (l := List.range (min a.length b.length)) (fun n => eqEn (a.getD n zEntry) (b.getD n zEntry))).length_le
  rw [List.length_range] at this
  omega
theorem agreed_commit {x : Node} (h0 : 0 ≤ x.commit) (h1 : x.commit ≤ x.log.length) : (agreed x).commit ≤ (agreed x).log.length := by
  have := agN_bd x (c := x.commit.toNat) (n := x.log.length) (by omega)
  show agI x ≤ x.log.length
  unfold agI
  omega
theorem taken_commit {y : Node} {m : Mail} (hl : y.log.length ≤ 2097152) (h1 : y.commit ≤ y.log.length) (hc : takenC y m = 0) : (takenN y m).commit ≤ (takenN y m).log.length := by
  unfold takenN
  split
  · exact h1
  · rename_i h0
    have g1 : ¬ m.term < y.term := fun e => h0 (.inl e)
    have g2 : ¬ y.role = 2 := fun e => h0 (.inr e)
    split
    · exact h1
    · rename_i h2
      have g3 : fitsM y.log m.index m.last = true := by
        cases hf : fitsM y.log m.index m.last
        · exact absurd (.inl hf) h2
        · rfl
      obtain ⟨i, hi, hin⟩ := fits_nat hl g3
      have g4 : y.commit ≤ (commonN y.log (takenL y m) : Int) := by
        revert hc
        unfold takenC
        rw [if_neg g1, if_neg g2, if_neg (by simp [g3])]
        split
        · intro h; cases h
        · split
          · intro h; cases h
          · intro _; omega
      have g5 := commonN_le y.log (takenL y m)
      have g6 : i + m.entries.length ≤ (takenL y m).length := by
        have := take7_ge (more := m.entries) hin
        unfold takenL
        rw [hi]
        exact this
      show max y.commit (min m.commit (takenEnd m)) ≤ ((takenL y m).length : Int)
      unfold takenEnd
      omega
theorem hear_commit {x : Node} {m : Mail} (hx : limN 2097152 x) : (hearMail x m).node.commit ≤ (hearMail x m).node.log.length := by
  unfold hearMail
  split
  · simp [badN, zNode]
  split
  · simp [badN, zNode]
  have K := hear_ok (x := x) (m := m) hx (by omega) (by omega)
  unfold hear
  generalize newer x m = y at K ⊢
  split
  · show (votedN y m).commit ≤ (votedN y m).log.length
    unfold votedN
    split
    · exact K.c1
    · exact K.c1
  split
  · show (grantedN y m).commit ≤ (grantedN y m).log.length
    unfold grantedN
    split
    · split
      · exact agreed_commit (x := led (riseN y m)) K.c0 K.c1
      · exact K.c1
    · exact K.c1
  split
  · split
    · simp [badN, zNode]
    · rename_i hc
      exact taken_commit K.lim.1 K.c1 (by simpa using hc)
  · show (toldN y m).commit ≤ (toldN y m).log.length
    unfold toldN
    split
    · exact K.c1
    · split
      · exact agreed_commit (x := toldOk y m) K.c0 K.c1
      · exact K.c1
theorem hear_id {x : Node} {m : Mail} (h : (hearMail x m).code = 0) : (hearMail x m).node.id = x.id := by
  unfold hearMail at *
  split at h
  · rename_i h0; exact absurd h h0
  rename_i h0
  rw [if_neg h0]
  split at h
  · rename_i h1; exact absurd h h1
  rename_i h1
  rw [if_neg h1]
  have hy : (newer x m).id = x.id := by
    unfold newer
    split <;> rfl
  unfold hear at *
  generalize newer x m = y at hy h ⊢
  split at h
  · rename_i k1
    rw [if_pos k1]
    show (votedN y m).id = x.id
    unfold votedN
    split <;> exact hy
  rename_i k1
  rw [if_neg k1]
  split at h
  · rename_i k2
    rw [if_pos k2]
    show (grantedN y m).id = x.id
    unfold grantedN
    split
    · split <;> exact hy
    · exact hy
  rename_i k2
  rw [if_neg k2]
  split at h
  · rename_i k3
    rw [if_pos k3]
    split at h
    · rename_i k4; exact absurd h k4
    · rename_i k4
      rw [if_neg k4]
      show (takenN y m).id = x.id
      unfold takenN
      split
      · exact hy
      · split <;> exact hy
  · rename_i k3
    rw [if_neg k3]
    show (toldN y m).id = x.id
    unfold toldN
    split
    · exact hy
    · split <;> exact hy
theorem without_lim {b : Nat} {x : Cluster} (h : limC b x) (n : Nat) : limC b (without x n) := by
  obtain ⟨⟨a1, a2⟩, ⟨b1, b2⟩, c1, d1⟩ := h
  refine ⟨⟨a1, a2⟩, ⟨by simp [without]; omega, fun y hy => b2 y ?_⟩, c1, d1⟩
  rcases List.mem_append.1 hy with hy | hy
  · exact List.mem_of_mem_take hy
  · exact List.mem_of_mem_drop hy
theorem do_lim {x : Cluster} (h : limC 1048576 x) (i : Nat) {r : NodeResult} (hr : limR 1048576 r) : limC 2097152 (doR x i r).cluster := by
  unfold doR
  split
  · obtain ⟨⟨a1, a2⟩, ⟨b1, b2⟩, c1, d1⟩ := h
    obtain ⟨⟨e1, e2, e3, e4⟩, f1, f2⟩ := hr
    have hm : limC 2097152 x := limC_mono (by omega) ⟨⟨a1, a2⟩, ⟨b1, b2⟩, c1, d1⟩
    refine ⟨⟨by simp [doC]; omega, fun y hy => ?_⟩, ⟨by simp [doC]; omega, fun y hy => ?_⟩, ?_, ?_⟩
    · rcases List.mem_or_eq_of_mem_set hy with hy | rfl
      · exact hm.1.2 y hy
      · exact ⟨by omega, by omega, by omega, by omega⟩
    · rcases List.mem_append.1 hy with hy | hy
      · exact hm.2.1.2 y hy
      · have := f2 y hy
        unfold limM at *
        omega
    · show (doWins _ _ _).length ≤ _
      unfold doWins
      split
      · simp; omega
      · omega
    · show (sealsTo _ _ _).length ≤ _
      unfold sealsTo
      simp
      omega
  · exact lim_bad
theorem deliverMail_lim {x : Cluster} (h : limC 1048576 x) (p : Int) : limC 2097152 (deliverMail x p).cluster := by
  unfold deliverMail
  split
  · exact lim_bad
  · exact do_lim (without_lim h _) _ (hear_lim (by omega) (lim_getD h.1.2 _) (by omega))
theorem hearMail_ok {x : Node} {m : Mail} (hn : nodeFault x = 0) (hm : mailFault x m = 0) : hearMail x m = hear x m := by
  unfold hearMail
  rw [if_neg (by simp [hn]), if_neg (by simp [hm])]
end Go.H
end
section
set_option linter.unusedVariables false
set_option linter.unusedSimpArgs false
namespace Go.H
open Go
def tmE (l : List Entry) (i : Nat) : Int := (l.getD i zEntry).term
def lstT (l : List Entry) : Int := (lastE l).term
theorem pre_getD {α : Type} (z : α) {a b : List α} (h : a <+: b) {i : Nat} (hi : i < a.length) : a.getD i z = b.getD i z := by
  obtain ⟨c, rfl⟩ := h
  rw [List.getD_eq_getElem?_getD, List.getD_eq_getElem?_getD, List.getElem?_append_left hi]
theorem ext_getD {α : Type} (z : α) {a b : List α} (hl : a.length = b.length) (h : ∀ j, j < a.length → a.getD j z = b.getD j z) : a = b := by
  apply List.ext_getElem hl
  intro i h1 h2
  have := h i h1
  rw [List.getD_eq_getElem?_getD, List.getD_eq_getElem?_getD, List.getElem?_eq_getElem h1, List.getElem?_eq_getElem h2] at this
  exact this
theorem pre_tm {a b : List Entry} (h : a <+: b) {i : Nat} (hi : i < a.length) : tmE a i = tmE b i := by
  unfold tmE; rw [pre_getD zEntry h hi]
theorem take_of_pre {α : Type} {a b : List α} (h : a <+: b) {k : Nat} (hk : k ≤ a.length) : a.take k = b.take k := by
  obtain ⟨c, rfl⟩ := h
  rw [List.take_append_of_le_length hk]
theorem pre_take {α : Type} {a b : List α} (h : a <+: b) : b.take a.length = a := (List.prefix_iff_eq_take.1 h).symm
theorem pre_le {α : Type} {a b c : List α} (h1 : a <+: c) (h2 : b <+: c) (h : a.length ≤ b.length) : a <+: b := List.prefix_of_prefix_length_le h1 h2 h
theorem take_le_pre {α : Type} (l : List α) {i j : Nat} (h : i ≤ j) : l.take i <+: l.take j := by
  refine pre_le (List.take_prefix i l) (List.take_prefix j l) ?_
  simp only [List.length_take]
  omega
theorem lst_tm {l : List Entry} (h : 0 < l.length) : lstT l = tmE l (l.length - 1) := by
  unfold lstT lastE tmE
  rw [if_neg (by omega)]
theorem lst_nil {l : List Entry} (h : l.length = 0) : lstT l = 0 := by
  unfold lstT lastE
  rw [if_pos h]
  rfl
theorem nodup_len : ∀ (N : Nat) {l : List Nat}, l.Nodup → (∀ v ∈ l, v < N) → l.length ≤ N
  | 0, l, _, h => by
    cases l with
    | nil => simp
    | cons a l => have := h a (by simp); omega
  | N + 1, l, hd, h => by
    have h1 : l.length ≤ (l.filter fun v => decide (v ≠ N)).length + 1 := by
      clear h
      induction l with
      | nil => simp
      | cons a l ih =>
        rw [List.nodup_cons] at hd
        by_cases ha : a = N
        · subst ha
          have : l.filter (fun v => decide (v ≠ a)) = l := List.filter_eq_self.2 fun v hv => by
            simp only [decide_eq_true_eq]
            rintro rfl
            exact hd.1 hv
          rw [List.filter_cons_of_neg (by simp), this]
          simp
        · rw [List.filter_cons_of_pos (by simp [ha])]
          have := ih hd.2
          simp only [List.length_cons]
          omega
    have h2 := nodup_len N (l := l.filter fun v => decide (v ≠ N)) (hd.filter _) (fun v hv => by
      rw [List.mem_filter] at hv
      have h3 := h v hv.1
      have h4 := hv.2
      simp only [decide_eq_true_eq] at h4
      omega)
    omega
theorem meet {N : Nat} {a b : List Nat} (ha : a.Nodup) (hb : b.Nodup) (ia : ∀ v ∈ a, v < N) (ib : ∀ v ∈ b, v < N) (qa : N < 2 * a.length) (qb : N < 2 * b.length) : ∃ v, v ∈ a ∧ v ∈ b := by
  apply Classical.byContradiction
  intro hn
  have := nodup_len N (l := a ++ b) (List.nodup_append.2 ⟨ha, hb, fun x hx y hy e => hn ⟨x, hx, e ▸ hy⟩⟩) (fun v hv => (List.mem_append.1 hv).elim (ia v) (ib v))
  rw [List.length_append] at this
  omega
structure RGh where
  ll : Int → List Entry
  ld : Int → Option Nat
  qs : Int → List Nat
  vt : Nat → Int → Option Nat
  vl : Nat → Int → List Entry
  ak : Nat → Int → Nat
def Mono (l : List Entry) : Prop := ∀ i j, i ≤ j → j < l.length → tmE l i ≤ tmE l j
structure LM (g : RGh) (l : List Entry) : Prop where
  mo : Mono l
  at_ : ∀ i, i < l.length → g.ld (tmE l i) ≠ none ∧ l.take (i + 1) <+: g.ll (tmE l i)
def upTo (V B : List Entry) : Prop := lstT V < lstT B ∨ (lstT B = lstT V ∧ V.length ≤ B.length)
def Cov (g : RGh) (X : List Entry) (a b : Int) : Prop := ∀ t w, a < t → t < b → g.ld t = some w → X <+: g.vl w t
structure GI (N : Nat) (g : RGh) : Prop where
  q : ∀ t w, g.ld t = some w → 1 ≤ t ∧ w < N ∧ g.vt w t = some w ∧ (g.qs t).Nodup ∧ (∀ v ∈ g.qs t, v < N ∧ g.vt v t = some w) ∧ N < 2 * (g.qs t).length
  b : ∀ t w, g.ld t = some w → g.vl w t <+: g.ll t ∧ (∀ i, (g.vl w t).length ≤ i → i < (g.ll t).length → tmE (g.ll t) i = t) ∧ (∀ i, i < (g.vl w t).length → tmE (g.vl w t) i < t) ∧ LM g (g.ll t)
  v : ∀ v t w, g.vt v t = some w → w < N ∧ g.vt w t = some w ∧ upTo (g.vl v t) (g.vl w t) ∧ LM g (g.vl v t)
  k : ∀ v t, g.ak v t ≤ (g.ll t).length ∧ (0 < g.ak v t → g.ld t ≠ none)
  i : ∀ v t', g.vt v t' ≠ none → (g.ld t' = none ∨ v ∈ g.qs t') → ∀ t k, t < t' → k ≤ g.ak v t → Cov g ((g.ll t).take k) t t' → (g.ll t).take k <+: g.vl v t'
def QA (N : Nat) (g : RGh) (j : Nat) (t : Int) : Prop := ∃ Q : List Nat, Q.Nodup ∧ (∀ v ∈ Q, v < N ∧ j ≤ g.ak v t) ∧ N < 2 * Q.length
def Cm (N : Nat) (g : RGh) (j : Nat) (t : Int) : Prop := g.ld t ≠ none ∧ 1 ≤ j ∧ j ≤ (g.ll t).length ∧ tmE (g.ll t) (j - 1) = t ∧ QA N g j t
def CmL (N : Nat) (g : RGh) (l : List Entry) (k T : Int) : Prop := k ≤ 0 ∨ ∃ t j, t ≤ T ∧ Cm N g j t ∧ k ≤ (j : Int) ∧ l.take k.toNat = (g.ll t).take k.toNat
theorem take_len {α : Type} {l : List α} {k : Nat} (h : k ≤ l.length) : (l.take k).length = k := by rw [List.length_take]; omega
theorem leader_has {N : Nat} {g : RGh} (G : GI N g) {j : Nat} {t : Int} (C : Cm N g j t) : ∀ (n : Nat) {t' : Int} {w : Nat}, (t' - t).toNat ≤ n → t < t' → g.ld t' = some w → (g.ll t).take j <+: g.vl w t'
  | 0, t', w, hn, h, _ => by omega
  | n + 1, t', w, hn, h, hw => by
    obtain ⟨c1, c2, c3, c4, Q, Q1, Q2, Q3⟩ := C
    obtain ⟨a1, a2, a3, a4, a5, a6⟩ := G.q _ _ hw
    obtain ⟨v, v1, v2⟩ := meet Q1 a4 (fun v hv => (Q2 v hv).1) (fun v hv => (a5 v hv).1) Q3 a6
    have hX : (g.ll t).take j <+: g.vl v t' := by
      refine G.i v t' (by rw [(a5 v v2).2]; simp) (.inr v2) t j h (Q2 v v1).2 (fun t2 w2 h1 h2 h3 => ?_)
      exact leader_has G ⟨c1, c2, c3, c4, Q, Q1, Q2, Q3⟩ n (by omega) h1 h3
    obtain ⟨_, _, hu, hV⟩ := G.v v t' w (a5 v v2).2
    obtain ⟨_, _, _, hB⟩ := G.v w t' w a3
    obtain ⟨b1, b2, b3, b4⟩ := G.b _ _ hw
    have hXl : ((g.ll t).take j).length = j := take_len c3
    have hjV : j ≤ (g.vl v t').length := by have := hX.length_le; omega
    have hjt : tmE (g.vl v t') (j - 1) = t := by
      rw [← pre_tm hX (by omega), pre_tm (List.take_prefix j (g.ll t)) (by omega)]
      exact c4
    have ht1 : 1 ≤ t := by
      cases hl : g.ld t with
      | none => exact absurd hl c1
      | some u => exact (G.q _ _ hl).1
    have hlV : t ≤ lstT (g.vl v t') := by
      rw [lst_tm (by omega), ← hjt]
      exact hV.mo _ _ (by omega) (by omega)
    have hBn : 0 < (g.vl w t').length := by
      rcases Nat.eq_zero_or_pos (g.vl w t').length with e | e
      · have := lst_nil e
        rcases hu with hu | ⟨hu, _⟩ <;> omega
      · exact e
    have hlB := lst_tm hBn
    have hτ := b3 ((g.vl w t').length - 1) (by omega)
    rw [← hlB] at hτ
    obtain ⟨d1, d2⟩ := hB.at_ ((g.vl w t').length - 1) (by omega)
    rw [← hlB, Nat.sub_add_cancel hBn, List.take_length] at d2
    rw [← hlB] at d1
    by_cases he : lstT (g.vl w t') = t
    · rw [he] at d2
      refine pre_le (List.take_prefix j (g.ll t)) d2 ?_
      rcases hu with hu | ⟨_, hu⟩
      · omega
      · omega
    · have hlt : t < lstT (g.vl w t') := by rcases hu with hu | ⟨hu, _⟩ <;> omega
      cases hl : g.ld (lstT (g.vl w t')) with
      | none => exact absurd hl d1
      | some u =>
        have h1 := leader_has G ⟨c1, c2, c3, c4, Q, Q1, Q2, Q3⟩ n (t' := lstT (g.vl w t')) (by omega) hlt hl
        obtain ⟨e1, e2, e3, e4⟩ := G.b _ _ hl
        refine pre_le (h1.trans e1) d2 ?_
        have hj := h1.length_le
        rcases Nat.lt_or_ge ((g.vl w t').length - 1) (g.vl u (lstT (g.vl w t'))).length with h2 | h2
        · exfalso
          have h3 := e3 _ h2
          have h4 := d2.length_le
          rw [pre_tm e1 h2, ← pre_tm d2 (by omega), ← hlB] at h3
          omega
        · omega
theorem leaders_have {N : Nat} {g : RGh} (G : GI N g) {j : Nat} {t t' : Int} (C : Cm N g j t) (h : t ≤ t') (hl : g.ld t' ≠ none) : (g.ll t).take j <+: g.ll t' := by
  by_cases e : t = t'
  · subst e; exact List.take_prefix ..
  · cases hw : g.ld t' with
    | none => exact absurd hw hl
    | some w => exact (leader_has G C (t' - t).toNat (Nat.le_refl _) (by omega) hw).trans (G.b _ _ hw).1
theorem agreed_same {N : Nat} {g : RGh} (G : GI N g) {j j' : Nat} {t t' : Int} (C : Cm N g j t) (C' : Cm N g j' t') {k : Nat} (h : k ≤ j) (h' : k ≤ j') : (g.ll t).take k = (g.ll t').take k := by
  have key : ∀ {j j' : Nat} {t t' : Int}, Cm N g j t → Cm N g j' t' → k ≤ j → t ≤ t' → (g.ll t).take k = (g.ll t').take k := by
    intro j j' t t' C C' h e
    have h1 := leaders_have G C e C'.1
    have h2 := take_of_pre h1 (k := k) (by rw [take_len C.2.2.1]; exact h)
    rwa [List.take_take, Nat.min_eq_left h] at h2
  rcases Int.le_total t t' with e | e
  · exact key C C' h e
  · exact (key C' C h' e).symm
theorem cmL_same {N : Nat} {g : RGh} (G : GI N g) {l l' : List Entry} {k k' T T' : Int} (C : CmL N g l k T) (C' : CmL N g l' k' T') {i : Nat} (h : (i : Int) ≤ k) (h' : (i : Int) ≤ k') : l.take i = l'.take i := by
  rcases Nat.eq_zero_or_pos i with rfl | hi
  · simp
  rcases C with C | ⟨t, j, _, C, hj, e⟩
  · omega
  rcases C' with C' | ⟨t', j', _, C', hj', e'⟩
  · omega
  have h1 := agreed_same G C C' (k := i) (by omega) (by omega)
  have e1 := congrArg (List.take i) e
  have e2 := congrArg (List.take i) e'
  rw [List.take_take, List.take_take, Nat.min_eq_left (by omega)] at e1 e2
  rw [e1, e2, h1]
structure RExt (g g' : RGh) : Prop where
  ld : ∀ t w, g.ld t = some w → g'.ld t = some w ∧ g.ll t <+: g'.ll t ∧ g'.qs t = g.qs t
  vt : ∀ v t w, g.vt v t = some w → g'.vt v t = some w ∧ g'.vl v t = g.vl v t
  ak : ∀ v t, g.ak v t ≤ g'.ak v t
theorem RExt.refl (g : RGh) : RExt g g := ⟨fun t w h => ⟨h, List.prefix_refl _, rfl⟩, fun v t w h => ⟨h, rfl⟩, fun v t => Nat.le_refl _⟩
theorem RExt.trans {a b c : RGh} (h : RExt a b) (k : RExt b c) : RExt a c := by
  refine ⟨fun t w e => ?_, fun v t w e => ?_, fun v t => Nat.le_trans (h.ak v t) (k.ak v t)⟩
  · obtain ⟨a1, a2, a3⟩ := h.ld t w e
    obtain ⟨b1, b2, b3⟩ := k.ld t w a1
    exact ⟨b1, a2.trans b2, b3.trans a3⟩
  · obtain ⟨a1, a2⟩ := h.vt v t w e
    obtain ⟨b1, b2⟩ := k.vt v t w a1
    exact ⟨b1, b2.trans a2⟩
theorem RExt.ne {g g' : RGh} (E : RExt g g') {t : Int} (h : g.ld t ≠ none) : g'.ld t ≠ none ∧ g.ll t <+: g'.ll t := by
  cases hl : g.ld t with
  | none => exact absurd hl h
  | some w => exact ⟨by rw [(E.ld t w hl).1]; simp, (E.ld t w hl).2.1⟩
theorem LM.ext {g g' : RGh} (E : RExt g g') {l : List Entry} (h : LM g l) : LM g' l :=
  ⟨h.mo, fun i hi => ⟨(E.ne (h.at_ i hi).1).1, (h.at_ i hi).2.trans (E.ne (h.at_ i hi).1).2⟩⟩
theorem Cm.ext {N : Nat} {g g' : RGh} (E : RExt g g') {j : Nat} {t : Int} (h : Cm N g j t) : Cm N g' j t := by
  obtain ⟨c1, c2, c3, c4, Q, Q1, Q2, Q3⟩ := h
  obtain ⟨e1, e2⟩ := E.ne c1
  have := e2.length_le
  exact ⟨e1, c2, by omega, by rw [← pre_tm e2 (by omega)]; exact c4, Q, Q1, fun v hv => ⟨(Q2 v hv).1, Nat.le_trans (Q2 v hv).2 (E.ak v t)⟩, Q3⟩
theorem CmL.ext {N : Nat} {g g' : RGh} (E : RExt g g') {l : List Entry} {k T : Int} (h : CmL N g l k T) : CmL N g' l k T := by
  rcases h with h | ⟨t, j, h1, h2, h3, h4⟩
  · exact .inl h
  · refine .inr ⟨t, j, h1, h2.ext E, h3, ?_⟩
    rw [h4]
    exact take_of_pre (E.ne h2.1).2 (by have := h2.2.2.1; omega)
theorem CmL.up {N : Nat} {g : RGh} {l : List Entry} {k T T' : Int} (h : CmL N g l k T) (hT : T ≤ T') : CmL N g l k T' := by
  rcases h with h | ⟨t, j, h1, h2, h3, h4⟩
  · exact .inl h
  · exact .inr ⟨t, j, by omega, h2, h3, h4⟩
theorem CmL.dn {N : Nat} {g : RGh} {l : List Entry} {k k' T : Int} (h : CmL N g l k T) (hk : k' ≤ k) : CmL N g l k' T := by
  rcases h with h | ⟨t, j, h1, h2, h3, h4⟩
  · exact .inl (by omega)
  · refine .inr ⟨t, j, h1, h2, by omega, ?_⟩
    have := congrArg (List.take k'.toNat) h4
    rwa [List.take_take, List.take_take, Nat.min_eq_left (by omega)] at this
theorem CmL.len {N : Nat} {g : RGh} {l : List Entry} {k T : Int} (h : CmL N g l k T) : k ≤ l.length := by
  rcases h with h | ⟨t, j, h1, h2, h3, h4⟩
  · omega
  · have e := congrArg List.length h4
    have := h2.2.2.1
    simp only [List.length_take] at e
    omega
theorem CmL.to {N : Nat} {g : RGh} {l l' : List Entry} {k T : Int} (h : CmL N g l k T) (e : l'.take k.toNat = l.take k.toNat) : CmL N g l' k T := by
  rcases h with h | ⟨t, j, h1, h2, h3, h4⟩
  · exact .inl h
  · exact .inr ⟨t, j, h1, h2, h3, e.trans h4⟩
theorem CmL.pre {N : Nat} {g : RGh} {l l' : List Entry} {k T : Int} (h : CmL N g l k T) (e : l <+: l') : CmL N g l' k T :=
  h.to (take_of_pre e (by have := h.len; omega)).symm
theorem Cov.back {N : Nat} {g g' : RGh} (G : GI N g) (E : RExt g g') {X : List Entry} {a b : Int} (h : Cov g' X a b) : Cov g X a b := by
  intro t w h1 h2 h3
  have := h t w h1 h2 (E.ld t w h3).1
  rwa [(E.vt w t w (G.q t w h3).2.2.1).2] at this
theorem Cov.sub {g : RGh} {X : List Entry} {a b a' b' : Int} (h : Cov g X a b) (h1 : a ≤ a') (h2 : b' ≤ b) : Cov g X a' b' :=
  fun t w e1 e2 e3 => h t w (by omega) (by omega) e3
structure NI (N : Nat) (g : RGh) (v : Nat) (x : Node) : Prop where
  id : x.id = v ∧ x.peers = N
  lm : LM g x.log
  lt : ∀ i, i < x.log.length → tmE x.log i ≤ x.term
  vo : (x.voted = -1 → g.vt v x.term = none) ∧ (∀ w : Nat, x.voted = w → g.vt v x.term = some w) ∧ -1 ≤ x.voted
  fu : ∀ t, x.term < t → g.vt v t = none ∧ g.ak v t = 0
  r1 : x.role = 1 → g.vt v x.term = some v ∧ g.vl v x.term = x.log ∧ g.ld x.term ≠ some v ∧ ∀ u ∈ x.votes, ∃ n : Nat, u = n ∧ n < N ∧ g.vt n x.term = some v
  r2 : x.role = 2 → g.ld x.term = some v ∧ x.log = g.ll x.term ∧ x.match_.length = N ∧ ∀ n : Nat, n < N → x.match_.getD n zI_i64 ≤ g.ak n x.term
  ac : ∀ t k, t ≤ x.term → k ≤ g.ak v t → Cov g ((g.ll t).take k) t (x.term + 1) → (g.ll t).take k <+: x.log
  cm : CmL N g x.log x.commit x.term
structure MI (N : Nat) (g : RGh) (m : Mail) : Prop where
  k1 : m.kind = 1 → ∃ f : Nat, m.from_ = f ∧ g.vt f m.term = some f ∧ m.index = (g.vl f m.term).length ∧ m.last = lstT (g.vl f m.term)
  k2 : m.kind = 2 → m.ok = true → ∃ f w : Nat, m.from_ = f ∧ m.to_ = w ∧ f < N ∧ g.vt f m.term = some w
  k3 : m.kind = 3 → ∃ f n : Nat, m.from_ = f ∧ g.ld m.term = some f ∧ m.index = n ∧ n ≤ (g.ll m.term).length ∧ (g.ll m.term).take n ++ m.entries <+: g.ll m.term ∧ m.last = lstT ((g.ll m.term).take n) ∧ CmL N g (g.ll m.term) m.commit m.term
  k4 : m.kind = 4 → m.ok = true → ∃ f : Nat, m.from_ = f ∧ f < N ∧ m.index ≤ g.ak f m.term
theorem MI.ext {N : Nat} {g g' : RGh} (E : RExt g g') {m : Mail} (h : MI N g m) : MI N g' m := by
  refine ⟨fun e => ?_, fun e o => ?_, fun e => ?_, fun e o => ?_⟩
  · obtain ⟨f, h1, h2, h3, h4⟩ := h.k1 e
    obtain ⟨e1, e2⟩ := E.vt _ _ _ h2
    exact ⟨f, h1, e1, by rw [e2]; exact h3, by rw [e2]; exact h4⟩
  · obtain ⟨f, w, h1, h2, h3, h4⟩ := h.k2 e o
    exact ⟨f, w, h1, h2, h3, (E.vt _ _ _ h4).1⟩
  · obtain ⟨f, n, h1, h2, h3, h4, h5, h6, h7⟩ := h.k3 e
    obtain ⟨e1, e2, _⟩ := E.ld _ _ h2
    have e3 := take_of_pre e2 h4
    refine ⟨f, n, h1, e1, h3, Nat.le_trans h4 e2.length_le, ?_, ?_, (h7.ext E).pre e2⟩
    · rw [← e3]; exact h5.trans e2
    · rw [← e3]; exact h6
  · obtain ⟨f, h1, h2, h3⟩ := h.k4 e o
    have := E.ak f m.term
    exact ⟨f, h1, h2, by omega⟩
theorem ac_ext {N : Nat} {g g' : RGh} (G : GI N g) (E : RExt g g') {v : Nat} {t b : Int} {k : Nat} {l : List Entry} (ha : g'.ak v t = g.ak v t) (h : ∀ k, k ≤ g.ak v t → Cov g ((g.ll t).take k) t b → (g.ll t).take k <+: l) (hk : k ≤ g'.ak v t) (hC : Cov g' ((g'.ll t).take k) t b) : (g'.ll t).take k <+: l := by
  rcases Nat.eq_zero_or_pos k with rfl | h0
  · simp
  obtain ⟨k1, k2⟩ := G.k v t
  have e2 := (E.ne (k2 (by omega))).2
  have e3 := take_of_pre e2 (k := k) (by omega)
  rw [← e3] at hC ⊢
  exact h k (by omega) (hC.back G E)
theorem NI.ext {N : Nat} {g g' : RGh} (G : GI N g) (E : RExt g g') {v : Nat} {x : Node} (h : NI N g v x) (hv : ∀ t, g'.vt v t = g.vt v t) (ha : ∀ t, g'.ak v t = g.ak v t) (hl : ∀ t, g'.ld t = some v → g.ld t = some v) (hll : ∀ t, g.ld t = some v → g'.ll t = g.ll t) : NI N g' v x := by
  refine ⟨h.id, h.lm.ext E, h.lt, ⟨fun e => by rw [hv]; exact h.vo.1 e, fun w e => by rw [hv]; exact h.vo.2.1 w e, h.vo.2.2⟩, fun t ht => by rw [hv, ha]; exact h.fu t ht, fun e => ?_, fun e => ?_, fun t k ht hk hC => ?_, h.cm.ext E⟩
  · obtain ⟨a1, a2, a3, a4⟩ := h.r1 e
    refine ⟨by rw [hv]; exact a1, by rw [(E.vt _ _ _ a1).2]; exact a2, fun e => a3 (hl _ e), fun u hu => ?_⟩
    obtain ⟨n, b1, b2, b3⟩ := a4 u hu
    exact ⟨n, b1, b2, (E.vt _ _ _ b3).1⟩
  · obtain ⟨a1, a2, a3, a4⟩ := h.r2 e
    refine ⟨(E.ld _ _ a1).1, by rw [hll _ a1]; exact a2, a3, fun n hn => ?_⟩
    have := a4 n hn
    have := E.ak n x.term
    omega
  · exact ac_ext G E (ha t) (fun k hk hC => h.ac t k ht hk hC) hk hC
theorem NI.rise {N : Nat} {g : RGh} {v : Nat} {x y : Node} (h : NI N g v x) (ht : x.term < y.term) (h1 : y.id = x.id) (h2 : y.peers = x.peers) (h3 : y.log = x.log) (h4 : y.voted = -1) (h5 : y.role = 0) (h6 : y.commit = x.commit) : NI N g v y := by
  refine ⟨by rw [h1, h2]; exact h.id, by rw [h3]; exact h.lm, fun i hi => ?_, ⟨fun _ => (h.fu _ ht).1, fun w e => by omega, by omega⟩, fun t h => NI.fu ‹_› t (by omega), fun e => by omega, fun e => by omega, fun t k htk hk hC => ?_, ?_⟩
  · rw [h3] at hi ⊢
    have := h.lt i hi
    omega
  · rw [h3]
    rcases Int.lt_or_le x.term t with e | e
    · have := (h.fu t e).2
      have : k = 0 := by omega
      subst this
      simp
    · exact h.ac t k e hk (hC.sub (Int.le_refl _) (by omega))
  · rw [h3, h6]
    exact h.cm.up (by omega)
theorem NI.calm {N : Nat} {g : RGh} {v : Nat} {x y : Node} (h : NI N g v x) (ht : y.term = x.term) (h1 : y.id = x.id) (h2 : y.peers = x.peers) (h3 : y.log = x.log) (h4 : y.voted = x.voted) (h5 : y.role = 0) (h6 : y.commit ≤ x.commit) : NI N g v y := by
  refine ⟨by rw [h1, h2]; exact h.id, by rw [h3]; exact h.lm, fun i hi => ?_, by rw [h4, ht]; exact h.vo, by rw [ht]; exact h.fu, fun e => by omega, fun e => by omega, fun t k htk hk hC => ?_, ?_⟩
  · rw [h3] at hi ⊢
    rw [ht]
    exact h.lt i hi
  · rw [ht] at htk hC
    rw [h3]
    exact h.ac t k htk hk hC
  · rw [h3, ht]
    exact h.cm.dn h6
def up1 {α : Type} (f : Int → α) (t : Int) (a : α) : Int → α := fun s => if s = t then a else f s
def up2 {α : Type} (f : Nat → Int → α) (v : Nat) (t : Int) (a : α) : Nat → Int → α := fun u s => if u = v ∧ s = t then a else f u s
theorem up1_self {α : Type} (f : Int → α) (t : Int) (a : α) : up1 f t a t = a := if_pos rfl
theorem up1_ne {α : Type} (f : Int → α) {t s : Int} (a : α) (h : s ≠ t) : up1 f t a s = f s := if_neg h
theorem up2_self {α : Type} (f : Nat → Int → α) (v : Nat) (t : Int) (a : α) : up2 f v t a v t = a := if_pos ⟨rfl, rfl⟩
theorem up2_ne {α : Type} (f : Nat → Int → α) {v u : Nat} {t s : Int} (a : α) (h : u ≠ v ∨ s ≠ t) : up2 f v t a u s = f u s := if_neg fun e => h.elim (fun h => h e.1) (fun h => h e.2)
theorem two (u v : Nat) (s t : Int) : (u = v ∧ s = t) ∨ (u ≠ v ∨ s ≠ t) := by omega
def voteG (g : RGh) (v : Nat) (t : Int) (w : Nat) (l : List Entry) : RGh := { g with vt := up2 g.vt v t (some w), vl := up2 g.vl v t l }
theorem vote_ext {g : RGh} {v : Nat} {t : Int} (w : Nat) (l : List Entry) (hn : g.vt v t = none) : RExt g (voteG g v t w l) := by
  refine ⟨fun t w e => ⟨e, List.prefix_refl _, rfl⟩, fun u s w e => ?_, fun _ _ => Nat.le_refl _⟩
  have hne : u ≠ v ∨ s ≠ t := by
    rcases two u v s t with ⟨rfl, rfl⟩ | h
    · rw [hn] at e; cases e
    · exact h
  exact ⟨(up2_ne _ _ hne).trans e, up2_ne _ _ hne⟩
theorem vote_gi {N : Nat} {g : RGh} (G : GI N g) {v : Nat} {x : Node} (h : NI N g v x) (hn : g.vt v x.term = none) {w : Nat} (hw : w < N) (hvw : w = v ∨ (g.vt w x.term = some w ∧ upTo x.log (g.vl w x.term))) : GI N (voteG g v x.term w x.log) := by
  have E := vote_ext w x.log hn
  refine ⟨fun t w' e => ?_, fun t w' e => ?_, fun u s w' e => ?_, G.k, fun u t' hvt hld t k ht hk hC => ?_⟩
  · obtain ⟨a1, a2, a3, a4, a5, a6⟩ := G.q t w' e
    exact ⟨a1, a2, (E.vt _ _ _ a3).1, a4, fun u hu => ⟨(a5 u hu).1, (E.vt _ _ _ (a5 u hu).2).1⟩, a6⟩
  · obtain ⟨b1, b2, b3, b4⟩ := G.b t w' e
    have hv := (E.vt _ _ _ (G.q t w' e).2.2.1).2
    rw [hv]
    exact ⟨b1, b2, b3, b4.ext E⟩
  · rcases two u v s x.term with ⟨rfl, rfl⟩ | hne
    · have e1 : w = w' := Option.some.inj ((up2_self g.vt u x.term (some w)).symm.trans e)
      subst e1
      have e2 : (voteG g u x.term w x.log).vl u x.term = x.log := up2_self ..
      rcases hvw with rfl | ⟨h1, h2⟩
      · rw [e2]
        exact ⟨hw, e, .inr ⟨rfl, Nat.le_refl _⟩, h.lm.ext E⟩
      · rw [e2, (E.vt _ _ _ h1).2]
        exact ⟨hw, (E.vt _ _ _ h1).1, h2, h.lm.ext E⟩
    · have e1 : g.vt u s = some w' := (up2_ne g.vt (some w) hne).symm.trans e
      obtain ⟨a1, a2, a3, a4⟩ := G.v u s w' e1
      rw [(E.vt _ _ _ e1).2, (E.vt _ _ _ a2).2]
      exact ⟨a1, (E.vt _ _ _ a2).1, a3, a4.ext E⟩
  · have hC2 := hC.back G E
    rcases two u v t' x.term with ⟨rfl, rfl⟩ | hne
    · have e2 : (voteG g u x.term w x.log).vl u x.term = x.log := up2_self ..
      rw [e2]
      have hd : g.ld x.term = none := by
        rcases hld with hld | hld
        · exact hld
        · cases hl : g.ld x.term with
          | none => rfl
          | some y =>
            have := ((G.q _ _ hl).2.2.2.2.1 u hld).2
            rw [hn] at this
            cases this
      refine h.ac t k (by omega) hk (fun t2 w2 h1 h2 h3 => ?_)
      by_cases e : t2 = x.term
      · subst e; rw [hd] at h3; cases h3
      · exact hC2 t2 w2 h1 (by omega) h3
    · have e1 : (voteG g v x.term w x.log).vt u t' = g.vt u t' := up2_ne _ _ hne
      have e2 : (voteG g v x.term w x.log).vl u t' = g.vl u t' := up2_ne _ _ hne
      rw [e1] at hvt
      rw [e2]
      exact G.i u t' hvt hld t k ht hk hC2
theorem vote_oth {N : Nat} {g : RGh} (G : GI N g) {v : Nat} {t : Int} (w : Nat) (l : List Entry) (hn : g.vt v t = none) {u : Nat} {y : Node} (hu : u ≠ v) (h : NI N g u y) : NI N (voteG g v t w l) u y :=
  h.ext G (vote_ext w l hn) (fun _ => up2_ne _ _ (.inl hu)) (fun _ => rfl) (fun _ e => e) (fun _ _ => rfl)
theorem vote_ni {N : Nat} {g : RGh} (G : GI N g) {v : Nat} {x y : Node} (h : NI N g v x) (hv : v < N) (hn : g.vt v x.term = none) {w : Nat} (ht : y.term = x.term) (h1 : y.id = x.id) (h2 : y.peers = x.peers) (h3 : y.log = x.log) (h4 : y.voted = w) (h5 : y.role = 0 ∨ (y.role = 1 ∧ w = v ∧ y.votes = [(v : Int)])) (h6 : y.commit = x.commit) : NI N (voteG g v x.term w x.log) v y := by
  have E := vote_ext w x.log hn
  refine ⟨by rw [h1, h2]; exact h.id, by rw [h3]; exact h.lm.ext E, fun i hi => ?_, ⟨fun e => by omega, fun w' e => ?_, by omega⟩, fun t h => ⟨(up2_ne _ _ (.inr (by omega))).trans (NI.fu ‹NI N g v x› t (by omega)).1, (NI.fu ‹NI N g v x› t (by omega)).2⟩, fun e => ?_, fun e => by omega, fun t k htk hk hC => ?_, ?_⟩
  · rw [h3] at hi ⊢
    rw [ht]
    exact h.lt i hi
  · rw [ht]
    have : w = w' := by omega
    subst this
    exact up2_self ..
  · obtain ⟨_, rfl, hvs⟩ := h5.resolve_left (by omega)
    rw [ht, h3, hvs]
    refine ⟨up2_self .., up2_self .., fun e => ?_, fun u hu => ?_⟩
    · have := (G.q _ _ e).2.2.1
      rw [hn] at this
      cases this
    · rw [List.mem_singleton] at hu
      exact ⟨w, hu, hv, up2_self ..⟩
  · rw [ht] at htk hC
    rw [h3]
    exact ac_ext G E rfl (fun k hk hC => h.ac t k htk hk hC) hk hC
  · rw [h3, ht, h6]
    exact h.cm.ext E
def elG (g : RGh) (v : Nat) (t : Int) (l : List Entry) (Q : List Nat) : RGh := { g with ll := up1 g.ll t l, ld := up1 g.ld t (some v), qs := up1 g.qs t Q, ak := up2 g.ak v t l.length }
theorem ak_none {N : Nat} {g : RGh} (G : GI N g) {t : Int} (hd : g.ld t = none) (u : Nat) : g.ak u t = 0 := by
  rcases Nat.eq_zero_or_pos (g.ak u t) with e | e
  · exact e
  · exact absurd hd ((G.k u t).2 e)
theorem el_ext {N : Nat} {g : RGh} (G : GI N g) {v : Nat} {t : Int} (l : List Entry) (Q : List Nat) (hd : g.ld t = none) : RExt g (elG g v t l Q) := by
  refine ⟨fun s w e => ?_, fun u s w e => ⟨e, rfl⟩, fun u s => ?_⟩
  · have hne : s ≠ t := by rintro rfl; rw [hd] at e; cases e
    exact ⟨(up1_ne _ _ hne).trans e, by show g.ll s <+: up1 g.ll t l s; rw [up1_ne _ _ hne]; exact List.prefix_refl _, up1_ne _ _ hne⟩
  · show _ ≤ up2 g.ak v t l.length u s
    rcases two u v s t with ⟨rfl, rfl⟩ | hne
    · rw [ak_none G hd]; omega
    · rw [up2_ne _ _ hne]; exact Nat.le_refl _
theorem el_gi {N : Nat} {g : RGh} (G : GI N g) {v : Nat} {x : Node} (h : NI N g v x) (hv : v < N) (hr : x.role = 1) (hd : g.ld x.term = none) (ht : 1 ≤ x.term) {Q : List Nat} (q1 : Q.Nodup) (q2 : ∀ u ∈ Q, u < N ∧ g.vt u x.term = some v) (q3 : N < 2 * Q.length) : GI N (elG g v x.term x.log Q) := by
  have E := el_ext G (v := v) x.log Q hd
  obtain ⟨r1, r2, r3, r4⟩ := h.r1 hr
  refine ⟨fun s w' e => ?_, fun s w' e => ?_, fun u s w' e => ?_, fun u s => ?_, fun u t' hvt hld t k ht hk hC => ?_⟩
  · by_cases hs : s = x.term
    · subst hs
      have e1 : v = w' := Option.some.inj ((up1_self g.ld x.term (some v)).symm.trans e)
      subst e1
      have e2 : (elG g v x.term x.log Q).qs x.term = Q := up1_self ..
      rw [e2]
      exact ⟨ht, hv, r1, q1, q2, q3⟩
    · have e1 : g.ld s = some w' := (up1_ne g.ld (some v) hs).symm.trans e
      have e2 : (elG g v x.term x.log Q).qs s = g.qs s := up1_ne _ _ hs
      rw [e2]
      exact G.q s w' e1
  · by_cases hs : s = x.term
    · subst hs
      have e1 : v = w' := Option.some.inj ((up1_self g.ld x.term (some v)).symm.trans e)
      subst e1
      have e2 : (elG g v x.term x.log Q).ll x.term = x.log := up1_self ..
      have e3 : (elG g v x.term x.log Q).vl v x.term = x.log := r2
      rw [e2, e3]
      refine ⟨List.prefix_refl _, fun i h1 h2 => by omega, fun i hi => ?_, h.lm.ext E⟩
      have := h.lt i hi
      have h2 := (h.lm.at_ i hi).1
      by_cases he : tmE x.log i = x.term
      · rw [he] at h2; exact absurd hd h2
      · omega
    · have e1 : g.ld s = some w' := (up1_ne g.ld (some v) hs).symm.trans e
      have e2 : (elG g v x.term x.log Q).ll s = g.ll s := up1_ne _ _ hs
      rw [e2]
      obtain ⟨b1, b2, b3, b4⟩ := G.b s w' e1
      exact ⟨b1, b2, b3, b4.ext E⟩
  · obtain ⟨a1, a2, a3, a4⟩ := G.v u s w' e
    exact ⟨a1, a2, a3, a4.ext E⟩
  · show up2 g.ak v x.term x.log.length u s ≤ (up1 g.ll x.term x.log s).length ∧ (0 < up2 g.ak v x.term x.log.length u s → up1 g.ld x.term (some v) s ≠ none)
    by_cases hs : s = x.term
    · subst hs
      rw [up1_self, up1_self]
      refine ⟨?_, fun _ => by simp⟩
      rcases two u v x.term x.term with ⟨rfl, _⟩ | hne
      · rw [up2_self]; exact Nat.le_refl _
      · rw [up2_ne _ _ hne, ak_none G hd]; omega
    · rw [up1_ne _ _ hs, up1_ne _ _ hs, up2_ne _ _ (.inr hs)]
      exact G.k u s
  · by_cases hs : t = x.term
    · subst hs
      by_cases hu : u = v
      · subst hu
        exact absurd (h.fu t' ht).1 hvt
      · have : k = 0 := by
          have e : (elG g v x.term x.log Q).ak u x.term = g.ak u x.term := up2_ne _ _ (.inl hu)
          rw [e, ak_none G hd] at hk
          omega
        subst this
        simp
    · have e1 : (elG g v x.term x.log Q).ak u t = g.ak u t := up2_ne _ _ (.inr hs)
      refine ac_ext (v := u) (b := t') G E e1 (fun k hk hC => ?_) hk hC
      by_cases ht' : t' = x.term
      · subst ht'
        exact G.i u _ hvt (.inl hd) t k ht hk hC
      · refine G.i u t' hvt ?_ t k ht hk hC
        rcases hld with hld | hld
        · exact .inl ((up1_ne g.ld (some v) ht').symm.trans hld)
        · have e2 : (elG g v x.term x.log Q).qs t' = g.qs t' := up1_ne _ _ ht'
          rw [e2] at hld
          exact .inr hld
theorem el_oth {N : Nat} {g : RGh} (G : GI N g) {v : Nat} {t : Int} (l : List Entry) (Q : List Nat) (hd : g.ld t = none) {u : Nat} {y : Node} (hu : u ≠ v) (h : NI N g u y) : NI N (elG g v t l Q) u y := by
  refine h.ext G (el_ext G l Q hd) (fun _ => rfl) (fun _ => up2_ne _ _ (.inl hu)) (fun s e => ?_) (fun s e => ?_)
  · by_cases hs : s = t
    · subst hs
      exact absurd (Option.some.inj ((up1_self g.ld s (some v)).symm.trans e)).symm hu
    · exact (up1_ne g.ld (some v) hs).symm.trans e
  · refine up1_ne _ _ ?_
    rintro rfl
    rw [hd] at e
    cases e
theorem el_ni {N : Nat} {g : RGh} (G : GI N g) {v : Nat} {x y : Node} (h : NI N g v x) (hr : x.role = 1) (hd : g.ld x.term = none) (Q : List Nat) (ht : y.term = x.term) (h1 : y.id = x.id) (h2 : y.peers = x.peers) (h3 : y.log = x.log) (h4 : y.voted = x.voted) (h5 : y.role = 2) (h6 : y.commit = x.commit) (h7 : y.match_.length = N) (h8 : ∀ n : Nat, n < N → n ≠ v → y.match_.getD n zI_i64 ≤ 0) (h9 : y.match_.getD v zI_i64 ≤ x.log.length) : NI N (elG g v x.term x.log Q) v y := by
  have E := el_ext G (v := v) x.log Q hd
  refine ⟨by rw [h1, h2]; exact h.id, by rw [h3]; exact h.lm.ext E, fun i hi => ?_, by rw [h4, ht]; exact h.vo, fun t h => ⟨(NI.fu ‹NI N g v x› t (by omega)).1, (up2_ne _ _ (.inr (by omega))).trans (NI.fu ‹NI N g v x› t (by omega)).2⟩, fun e => by omega, fun e => ?_, fun t k htk hk hC => ?_, ?_⟩
  · rw [h3] at hi ⊢
    rw [ht]
    exact h.lt i hi
  · rw [ht, h3]
    refine ⟨up1_self .., (up1_self ..).symm, h7, fun n hn => ?_⟩
    show _ ≤ ((up2 g.ak v x.term x.log.length n x.term : Nat) : Int)
    by_cases e : n = v
    · subst e
      rw [up2_self]
      exact h9
    · have := h8 n hn e
      omega
  · rw [ht] at htk hC
    rw [h3]
    by_cases hs : t = x.term
    · subst hs
      have e : (elG g v x.term x.log Q).ll x.term = x.log := up1_self ..
      rw [e]
      exact List.take_prefix ..
    · exact ac_ext G E (up2_ne _ _ (.inr hs)) (fun k hk hC => h.ac t k htk hk hC) hk hC
  · rw [h3, ht, h6]
    exact h.cm.ext E
def apG (g : RGh) (v : Nat) (t : Int) (e : Entry) : RGh := { g with ll := up1 g.ll t (g.ll t ++ [e]), ak := up2 g.ak v t (g.ll t ++ [e]).length }
theorem tm_app {l : List Entry} {e : Entry} {i : Nat} (h : i < l.length) : tmE (l ++ [e]) i = tmE l i := (pre_tm (List.prefix_append l [e]) h).symm
theorem tm_end (l : List Entry) (e : Entry) : tmE (l ++ [e]) l.length = e.term := by
  unfold tmE
  rw [List.getD_eq_getElem?_getD, List.getElem?_append_right (Nat.le_refl _), Nat.sub_self]
  rfl
theorem ap_ext {N : Nat} {g : RGh} (G : GI N g) (v : Nat) (t : Int) (e : Entry) : RExt g (apG g v t e) := by
  refine ⟨fun s w h => ⟨h, ?_, rfl⟩, fun u s w h => ⟨h, rfl⟩, fun u s => ?_⟩
  · show g.ll s <+: up1 g.ll t _ s
    by_cases hs : s = t
    · subst hs; rw [up1_self]; exact List.prefix_append ..
    · rw [up1_ne _ _ hs]; exact List.prefix_refl _
  · show _ ≤ up2 g.ak v t _ u s
    rcases two u v s t with ⟨rfl, rfl⟩ | hne
    · rw [up2_self]
      have := (G.k u s).1
      simp only [List.length_append, List.length_singleton]
      omega
    · rw [up2_ne _ _ hne]; exact Nat.le_refl _
theorem ap_lm {N : Nat} {g : RGh} (G : GI N g) {v : Nat} {t : Int} {e : Entry} (hl : g.ld t = some v) (he : e.term = t) : LM (apG g v t e) (g.ll t ++ [e]) := by
  have E := ap_ext G v t e
  obtain ⟨b1, b2, b3, b4⟩ := G.b t v hl
  have hle : ∀ i, i < (g.ll t).length → tmE (g.ll t) i ≤ t := by
    intro i hi
    rcases Nat.lt_or_ge i (g.vl v t).length with h | h
    · have := b3 i h
      rw [pre_tm b1 h] at this
      omega
    · rw [b2 i h hi]; exact Int.le_refl _
  refine ⟨fun i j hij hj => ?_, fun i hi => ?_⟩
  · rw [List.length_append, List.length_singleton] at hj
    rcases Nat.lt_or_ge j (g.ll t).length with h | h
    · rw [tm_app h, tm_app (by omega)]
      exact b4.mo i j hij h
    · obtain rfl : j = (g.ll t).length := by omega
      rw [tm_end, he]
      rcases Nat.lt_or_ge i (g.ll t).length with h2 | h2
      · rw [tm_app h2]; exact hle i h2
      · obtain rfl : i = (g.ll t).length := by omega
        rw [tm_end, he]; exact Int.le_refl _
  · rw [List.length_append, List.length_singleton] at hi
    rcases Nat.lt_or_ge i (g.ll t).length with h | h
    · rw [tm_app h, List.take_append_of_le_length (by omega)]
      exact (b4.ext E).at_ i h
    · obtain rfl : i = (g.ll t).length := by omega
      rw [tm_end, he, List.take_of_length_le (by simp)]
      refine ⟨by show g.ld t ≠ none; rw [hl]; simp, ?_⟩
      show _ <+: up1 g.ll t _ t
      rw [up1_self]
      exact List.prefix_refl _
theorem ap_gi {N : Nat} {g : RGh} (G : GI N g) {v : Nat} {x : Node} (h : NI N g v x) {e : Entry} (hl : g.ld x.term = some v) (he : e.term = x.term) : GI N (apG g v x.term e) := by
  have E := ap_ext G v x.term e
  have hL := ap_lm G hl he
  refine ⟨G.q, fun s w' h' => ?_, fun u s w' h' => ?_, fun u s => ?_, fun u t' hvt hld t k ht hk hC => ?_⟩
  · have h' : g.ld s = some w' := h'
    obtain ⟨b1, b2, b3, b4⟩ := G.b s w' h'
    by_cases hs : s = x.term
    · subst hs
      have e1 : (apG g v x.term e).ll x.term = g.ll x.term ++ [e] := up1_self ..
      rw [e1]
      have := b1.length_le
      refine ⟨b1.trans (List.prefix_append ..), fun i h1 h2 => ?_, b3, hL⟩
      rw [List.length_append, List.length_singleton] at h2
      rcases Nat.lt_or_ge i (g.ll x.term).length with h3 | h3
      · rw [tm_app h3]; exact b2 i h1 h3
      · obtain rfl : i = (g.ll x.term).length := by omega
        rw [tm_end, he]
    · have e1 : (apG g v x.term e).ll s = g.ll s := up1_ne _ _ hs
      rw [e1]
      exact ⟨b1, b2, b3, b4.ext E⟩
  · obtain ⟨a1, a2, a3, a4⟩ := G.v u s w' h'
    exact ⟨a1, a2, a3, a4.ext E⟩
  · show up2 g.ak v x.term _ u s ≤ (up1 g.ll x.term _ s).length ∧ (0 < up2 g.ak v x.term _ u s → g.ld s ≠ none)
    have := G.k u s
    by_cases hs : s = x.term
    · subst hs
      rw [up1_self]
      rcases two u v x.term x.term with ⟨rfl, _⟩ | hne
      · rw [up2_self]; exact ⟨Nat.le_refl _, fun _ => by rw [hl]; simp⟩
      · rw [up2_ne _ _ hne]
        refine ⟨?_, this.2⟩
        simp only [List.length_append, List.length_singleton]
        omega
    · rw [up1_ne _ _ hs, up2_ne _ _ (.inr hs)]
      exact this
  · rcases two u v t x.term with ⟨rfl, rfl⟩ | hne
    · exact absurd (h.fu t' ht).1 hvt
    · exact ac_ext (v := u) (b := t') G E (up2_ne _ _ hne) (fun k hk hC => G.i u t' hvt hld t k ht hk hC) hk hC
theorem ap_oth {N : Nat} {g : RGh} (G : GI N g) {v : Nat} {t : Int} {e : Entry} (hl : g.ld t = some v) {u : Nat} {y : Node} (hu : u ≠ v) (h : NI N g u y) : NI N (apG g v t e) u y := by
  refine h.ext G (ap_ext G v t e) (fun _ => rfl) (fun _ => up2_ne _ _ (.inl hu)) (fun s e => e) (fun s h' => ?_)
  refine up1_ne _ _ ?_
  rintro rfl
  rw [hl] at h'
  exact hu (Option.some.inj h').symm
theorem ap_ni {N : Nat} {g : RGh} (G : GI N g) {v : Nat} {x y : Node} (h : NI N g v x) {e : Entry} (hr : x.role = 2) (he : e.term = x.term) (ht : y.term = x.term) (h1 : y.id = x.id) (h2 : y.peers = x.peers) (h3 : y.log = x.log ++ [e]) (h4 : y.voted = x.voted) (h5 : y.role = 2) (h6 : y.commit = x.commit) (h7 : y.match_.length = N) (h8 : ∀ n : Nat, n < N → n ≠ v → y.match_.getD n zI_i64 = x.match_.getD n zI_i64) (h9 : y.match_.getD v zI_i64 ≤ x.log.length + 1) : NI N (apG g v x.term e) v y := by
  have E := ap_ext G v x.term e
  obtain ⟨r1, r2, r3, r4⟩ := h.r2 hr
  have hL := ap_lm G r1 he
  rw [← r2] at hL
  refine ⟨by rw [h1, h2]; exact h.id, by rw [h3]; exact hL, fun i hi => ?_, by rw [h4, ht]; exact h.vo, fun t h => ⟨(NI.fu ‹NI N g v x› t (by omega)).1, (up2_ne _ _ (.inr (by omega))).trans (NI.fu ‹NI N g v x› t (by omega)).2⟩, fun e => by omega, fun e' => ?_, fun t k htk hk hC => ?_, ?_⟩
  · rw [h3] at hi ⊢
    rw [ht]
    rw [List.length_append, List.length_singleton] at hi
    rcases Nat.lt_or_ge i x.log.length with h' | h'
    · rw [tm_app h']; exact h.lt i h'
    · obtain rfl : i = x.log.length := by omega
      rw [tm_end, he]; exact Int.le_refl _
  · rw [ht, h3]
    refine ⟨r1, by rw [r2]; exact (up1_self ..).symm, h7, fun n hn => ?_⟩
    show _ ≤ ((up2 g.ak v x.term _ n x.term : Nat) : Int)
    by_cases e : n = v
    · subst e
      rw [up2_self, ← r2, List.length_append, List.length_singleton]
      omega
    · rw [h8 n hn e, up2_ne _ _ (.inl e)]
      exact r4 n hn
  · rw [ht] at htk hC
    rw [h3]
    by_cases hs : t = x.term
    · subst hs
      have e1 : (apG g v x.term e).ll x.term = x.log ++ [e] := by rw [r2]; exact up1_self ..
      rw [e1]
      exact List.take_prefix ..
    · exact (ac_ext G E (up2_ne _ _ (.inr hs)) (fun k hk hC => h.ac t k htk hk hC) hk hC).trans (List.prefix_append ..)
  · rw [h3, ht, h6]
    exact (h.cm.ext E).pre (List.prefix_append ..)
def akG (g : RGh) (v : Nat) (t : Int) (n : Nat) : RGh := { g with ak := up2 g.ak v t (max (g.ak v t) n) }
theorem ak_ext (g : RGh) (v : Nat) (t : Int) (n : Nat) : RExt g (akG g v t n) := by
  refine ⟨fun s w h => ⟨h, List.prefix_refl _, rfl⟩, fun u s w h => ⟨h, rfl⟩, fun u s => ?_⟩
  show _ ≤ up2 g.ak v t _ u s
  rcases two u v s t with ⟨rfl, rfl⟩ | hne
  · rw [up2_self]; omega
  · rw [up2_ne _ _ hne]; exact Nat.le_refl _
theorem ak_gi {N : Nat} {g : RGh} (G : GI N g) {v : Nat} {x : Node} (h : NI N g v x) {n : Nat} (hl : g.ld x.term ≠ none) (hn : n ≤ (g.ll x.term).length) : GI N (akG g v x.term n) := by
  have E := ak_ext g v x.term n
  refine ⟨G.q, fun s w' h' => ?_, fun u s w' h' => ?_, fun u s => ?_, fun u t' hvt hld t k ht hk hC => ?_⟩
  · obtain ⟨b1, b2, b3, b4⟩ := G.b s w' h'
    exact ⟨b1, b2, b3, b4.ext E⟩
  · obtain ⟨a1, a2, a3, a4⟩ := G.v u s w' h'
    exact ⟨a1, a2, a3, a4.ext E⟩
  · show up2 g.ak v x.term _ u s ≤ (g.ll s).length ∧ (0 < up2 g.ak v x.term _ u s → g.ld s ≠ none)
    have := G.k u s
    rcases two u v s x.term with ⟨rfl, rfl⟩ | hne
    · rw [up2_self]; exact ⟨by omega, fun _ => hl⟩
    · rw [up2_ne _ _ hne]; exact this
  · rcases two u v t x.term with ⟨rfl, rfl⟩ | hne
    · exact absurd (h.fu t' ht).1 hvt
    · exact ac_ext (v := u) (b := t') G E (up2_ne _ _ hne) (fun k hk hC => G.i u t' hvt hld t k ht hk hC) hk hC
theorem ak_oth {N : Nat} {g : RGh} (G : GI N g) {v : Nat} {t : Int} (n : Nat) {u : Nat} {y : Node} (hu : u ≠ v) (h : NI N g u y) : NI N (akG g v t n) u y :=
  h.ext G (ak_ext g v t n) (fun _ => rfl) (fun _ => up2_ne _ _ (.inl hu)) (fun s e => e) (fun s h' => rfl)
theorem LM.pre {g : RGh} {l L : List Entry} (h : LM g L) (p : l <+: L) : LM g l := by
  have hl := p.length_le
  refine ⟨fun i j hij hj => ?_, fun i hi => ?_⟩
  · rw [pre_tm p (by omega), pre_tm p hj]
    exact h.mo i j hij (by omega)
  · rw [pre_tm p hi, take_of_pre p (by omega)]
    exact h.at_ i (by omega)
theorem lm_meet {g : RGh} {a b : List Entry} (ha : LM g a) (hb : LM g b) {i : Nat} (h1 : i < a.length) (h2 : i < b.length) (e : tmE a i = tmE b i) : a.take (i + 1) = b.take (i + 1) := by
  have p := (ha.at_ i h1).2
  have q := (hb.at_ i h2).2
  rw [← e] at q
  have := pre_le p q (by simp only [List.length_take]; omega)
  exact this.eq_of_length (by simp only [List.length_take]; omega)
theorem tm_get (l : List Entry) (i : Nat) : (l.getD i zEntry).term = tmE l i := rfl
theorem fits_take {g : RGh} {a L : List Entry} (ha : LM g a) (hL : LM g L) {n : Nat} (hn : n ≤ L.length) (ha2 : a.length ≤ 2097152) (h : fitsM a n (lstT (L.take n)) = true) : n ≤ a.length ∧ a.take n = L.take n := by
  unfold fitsM at h
  rcases Nat.eq_zero_or_pos n with rfl | h0
  · simp
  rw [if_neg (by omega)] at h
  simp only [Bool.and_eq_true, decide_eq_true_eq] at h
  obtain ⟨h1, h2⟩ := h
  have h3 := inR_idx ha2 h1
  unfold inR at h1
  simp only [Bool.and_eq_true, decide_eq_true_eq] at h1
  have e : (IntKind.i64.wrap ((n : Int) - 1)).toNat = n - 1 := by
    rw [wrap_small (by omega) (by omega)]; omega
  rw [e, lst_tm (by rw [take_len hn]; exact h0), take_len hn, pre_tm (List.take_prefix n L) (by rw [take_len hn]; omega)] at h2
  have := lm_meet ha hL (i := n - 1) (by omega) (by omega) h2
  rw [Nat.sub_add_cancel h0] at this
  exact ⟨by omega, this⟩
theorem take7_lead {g : RGh} {a L more : List Entry} (ha : LM g a) (hL : LM g L) {n : Nat} (hn : n ≤ L.length) (he : a.take n = L.take n) (hna : n ≤ a.length) (hP : L.take n ++ more <+: L) :
    (L.take n ++ more <+: a ∧ take7 a more n = a) ∨ (take7 a more n = L.take n ++ more ∧ ∃ d, d < n + more.length ∧ (a.length ≤ d ∨ (d < L.length ∧ tmE a d ≠ tmE L d))) := by
  obtain ⟨k, h1, h2, h3⟩ := first_bad (fun k => !bad7 a more n k) more.length
  have hlen : (L.take n ++ more).length = n + more.length := by rw [List.length_append, take_len hn]
  have hPl := hP.length_le
  have hm : ∀ q, q < more.length → tmE L (n + q) = (more.getD q zEntry).term := by
    intro q hq
    rw [← pre_tm hP (by omega)]
    unfold tmE
    rw [List.getD_eq_getElem?_getD, List.getElem?_append_right (by rw [take_len hn]; omega), take_len hn, List.getD_eq_getElem?_getD]
    congr 3
    omega
  have hlo : ∀ q, q < k → bad7 a more n q = false := fun q hq => by simpa using h2 q hq
  have hg : ∀ q, q < k → n + q < a.length ∧ tmE a (n + q) = tmE L (n + q) := by
    intro q hq
    have := hlo q hq
    unfold bad7 at this
    simp only [Bool.or_eq_false_iff, decide_eq_false_iff_not, Bool.not_eq_false', decide_eq_true_eq] at this
    exact ⟨by omega, by rw [hm q (by omega)]; exact this.2⟩
  have hk : n + k ≤ a.length ∧ a.take (n + k) = L.take (n + k) := by
    cases k with
    | zero => exact ⟨by omega, he⟩
    | succ k =>
      obtain ⟨g1, g2⟩ := hg k (by omega)
      have h5 := lm_meet ha hL (i := n + k) g1 (by omega) g2
      exact ⟨by omega, h5⟩
  have hPk : ∀ j, j ≤ more.length → L.take (n + j) = L.take n ++ more.take j := by
    intro j hj
    rw [← take_of_pre hP (by omega), List.take_append, take_len hn, List.take_of_length_le (by rw [take_len hn]; omega), Nat.add_sub_cancel_left]
  rcases Nat.lt_or_ge k more.length with h | h
  · right
    refine ⟨?_, n + k, by omega, ?_⟩
    · rw [take7_at h hlo (by simpa using h3 h), hk.2, hPk k h1, List.append_assoc, List.take_append_drop]
    · have := h3 h
      simp only [Bool.not_eq_false'] at this
      unfold bad7 at this
      simp only [Bool.or_eq_true, decide_eq_true_eq, Bool.not_eq_true', decide_eq_false_iff_not] at this
      rcases this with h4 | h4
      · exact .inl h4
      · exact .inr ⟨by omega, by rw [hm k h]; exact h4⟩
  · left
    obtain rfl : k = more.length := by omega
    refine ⟨?_, take7_all hlo⟩
    have := hPk more.length (Nat.le_refl _)
    rw [List.take_length] at this
    rw [← this, ← hk.2]
    exact List.take_prefix ..
theorem eqEn_eq {x y : Entry} (h : eqEn x y = true) : x = y := by
  obtain ⟨a, b, c, d, e, f, i, j, k⟩ := x
  obtain ⟨a', b', c', d', e', f', i', j', k'⟩ := y
  simp [eqEn] at h
  simp [h]
theorem eqEn_self (x : Entry) : eqEn x x = true := by simp [eqEn]
theorem common_at (a b : List Entry) : ∃ c, commonN a b = c ∧ c ≤ a.length ∧ c ≤ b.length ∧ (∀ q, q < c → a.getD q zEntry = b.getD q zEntry) ∧ (c < a.length → c < b.length → a.getD c zEntry ≠ b.getD c zEntry) := by
  obtain ⟨c, h1, h2, h3⟩ := first_bad (fun n => eqEn (a.getD n zEntry) (b.getD n zEntry)) (min a.length b.length)
  have e : commonN a b = c := tw_range h1 h2 h3
  refine ⟨c, e, by omega, by omega, fun q hq => eqEn_eq (h2 q hq), fun g1 g2 he => ?_⟩
  have := h3 (by omega)
  simp only [he, eqEn_self] at this
  cases this
theorem common_take {a b : List Entry} {k : Nat} (h : k ≤ commonN a b) : a.take k = b.take k := by
  obtain ⟨c, h0, h1, h2, h3, _⟩ := common_at a b
  refine ext_getD zEntry (by simp only [List.length_take]; omega) (fun j hj => ?_)
  have hj : j < k := by simp only [List.length_take] at hj; omega
  rw [List.getD_eq_getElem?_getD, List.getD_eq_getElem?_getD, List.getElem?_take, List.getElem?_take, if_pos hj, if_pos hj, ← List.getD_eq_getElem?_getD, ← List.getD_eq_getElem?_getD]
  exact h3 j (by omega)
theorem common_ge {a b : List Entry} {k : Nat} (ha : k ≤ a.length) (hb : k ≤ b.length) (h : a.take k = b.take k) : k ≤ commonN a b := by
  obtain ⟨c, h0, h1, h2, _, h4⟩ := common_at a b
  rcases Nat.lt_or_ge c k with e | e
  · exfalso
    refine h4 (by omega) (by omega) ?_
    have := congrArg (fun l => l.getD c zEntry) h
    simp only [List.getD_eq_getElem?_getD, List.getElem?_take, if_pos e] at this
    simpa [List.getD_eq_getElem?_getD] using this
  · omega
theorem take_gn {N : Nat} {g : RGh} (G : GI N g) {v : Nat} {x : Node} {m : Mail} (h : NI N g v x) (ht : m.term = x.term) (hk : m.kind = 3) (M : MI N g m) (hf : fitsM x.log m.index m.last = true) (hcm : x.commit ≤ (commonN x.log (takenL x m) : Int)) (hll : x.log.length ≤ 2097152) :
    ∃ g', RExt g g' ∧ GI N g' ∧ NI N g' v (takenOk x m) ∧ (∀ u y, u ≠ v → NI N g u y → NI N g' u y) ∧ takenEnd m ≤ g'.ak v x.term := by
  obtain ⟨f, n, m1, m2, m3, m4, m5, m6, m7⟩ := M.k3 hk
  rw [ht] at m2 m4 m5 m6 m7
  obtain ⟨b1, b2, b3, b4⟩ := G.b _ _ m2
  rw [m3, m6] at hf
  obtain ⟨f1, f2⟩ := fits_take h.lm b4 m4 hll hf
  have hlen : ((g.ll x.term).take n ++ m.entries).length = n + m.entries.length := by rw [List.length_append, take_len m4]
  have hPl := m5.length_le
  have hend : takenEnd m = ((n + m.entries.length : Nat) : Int) := by unfold takenEnd; omega
  have hL : takenL x m = take7 x.log m.entries n := by
    unfold takenL
    rw [m3]
    rfl
  have hpe : ∀ k, k ≤ n + m.entries.length → (g.ll x.term).take k <+: (g.ll x.term).take n ++ m.entries := fun k hk => pre_le (List.take_prefix ..) m5 (by rw [hlen, List.length_take]; omega)
  have hcase := take7_lead h.lm b4 m4 f2 f1 m5
  rw [← hL] at hcase
  have hpl : (g.ll x.term).take n ++ m.entries <+: takenL x m := by
    rcases hcase with ⟨c1, c2⟩ | ⟨c1, _⟩
    · rw [c2]; exact c1
    · rw [c1]; exact List.prefix_refl _
  have hlt : ∀ i, i < (g.ll x.term).length → tmE (g.ll x.term) i ≤ x.term := by
    intro i hi
    rcases Nat.lt_or_ge i (g.vl f x.term).length with e | e
    · have := b3 i e
      rw [pre_tm b1 e] at this
      omega
    · rw [b2 i e hi]; exact Int.le_refl _
  have E := ak_ext g v x.term (n + m.entries.length)
  refine ⟨akG g v x.term (n + m.entries.length), E, ak_gi G h (by rw [m2]; simp) (by omega), ?_, fun u y hu hy => ak_oth G _ hu hy, ?_⟩
  · have hd : ∀ {X : List Entry}, X <+: x.log → X <+: g.ll x.term → X <+: takenL x m := by
      intro X h1 h2
      rcases hcase with ⟨c1, c2⟩ | ⟨c1, d, d1, d2⟩
      · rw [c2]; exact h1
      · rw [c1]
        refine pre_le h2 m5 ?_
        rw [hlen]
        have hx1 := h1.length_le
        have hx2 := h2.length_le
        rcases Nat.lt_or_ge d X.length with e | e
        · exfalso
          rcases d2 with d2 | ⟨_, d2⟩
          · omega
          · exact d2 ((pre_tm h1 e).symm.trans (pre_tm h2 e))
        · omega
    have key : NI N (akG g v x.term (n + m.entries.length)) v (takenOk x m) := by
      refine ⟨h.id, ?_, fun i hi => ?_, h.vo, fun t h' => ⟨(h.fu t h').1, (up2_ne _ _ (.inr (by have : x.term < t := h'; omega))).trans (h.fu t h').2⟩, fun e => (by cases e), fun e => (by cases e), fun t k htk hk hC => ?_, ?_⟩
      · show LM _ (takenL x m)
        rcases hcase with ⟨c1, c2⟩ | ⟨c1, _⟩
        · rw [c2]; exact h.lm.ext E
        · rw [c1]; exact (b4.pre m5).ext E
      · change i < (takenL x m).length at hi
        change tmE (takenL x m) i ≤ x.term
        rcases hcase with ⟨c1, c2⟩ | ⟨c1, _⟩
        · rw [c2] at hi ⊢; exact h.lt i hi
        · rw [c1] at hi ⊢
          rw [pre_tm m5 hi]
          exact hlt i (by omega)
      · change t ≤ x.term at htk
        change Cov _ _ t (x.term + 1) at hC
        show (g.ll t).take k <+: takenL x m
        have hC2 : Cov g ((g.ll t).take k) t (x.term + 1) := hC.back G E
        by_cases hs : t = x.term
        · subst hs
          have hk2 : k ≤ max (g.ak v x.term) (n + m.entries.length) := by
            have e : (akG g v x.term (n + m.entries.length)).ak v x.term = max (g.ak v x.term) (n + m.entries.length) := up2_self ..
            rw [e] at hk
            exact hk
          rcases Nat.lt_or_ge (n + m.entries.length) k with e | e
          · exact hd (h.ac x.term k htk (by omega) hC2) (List.take_prefix ..)
          · exact (hpe k e).trans hpl
        · have hk2 : k ≤ g.ak v t := by
            have e : (akG g v x.term (n + m.entries.length)).ak v t = g.ak v t := up2_ne _ _ (.inr hs)
            rw [e] at hk
            exact hk
          exact hd (h.ac t k htk hk2 hC2) ((hC2 x.term f (by omega) (by omega) m2).trans b1)
      · show CmL N _ (takenL x m) (max x.commit (min m.commit (takenEnd m))) x.term
        rcases Int.lt_or_le x.commit (min m.commit (takenEnd m)) with e | e
        · rw [show max x.commit (min m.commit (takenEnd m)) = min m.commit (takenEnd m) by omega]
          have hc := (m7.dn (k' := min m.commit (takenEnd m)) (by omega)).ext E
          refine hc.to ?_
          rw [← take_of_pre hpl (by rw [hlen]; omega), take_of_pre m5 (by rw [hlen]; omega)]
        · rw [show max x.commit (min m.commit (takenEnd m)) = x.commit by omega]
          refine (h.cm.ext E).to ?_
          exact (common_take (by omega)).symm
    exact key
  · have e : (akG g v x.term (n + m.entries.length)).ak v x.term = max (g.ak v x.term) (n + m.entries.length) := up2_self ..
    rw [e, hend]
    omega
theorem countP_range {α : Type} (z : α) (l : List α) (p : α → Bool) : l.countP p = ((List.range l.length).filter fun i => p (l.getD i z)).length := by
  have e : l = (List.range l.length).map fun i => l.getD i z := by
    apply List.ext_getElem
    · simp
    · intro i h1 h2
      simp [List.getD_eq_getElem?_getD, List.getElem?_eq_getElem h1]
  conv => lhs; rw [e]
  rw [List.countP_map, List.countP_eq_length_filter]
  rfl
theorem agN_or (x : Node) (c : Nat) : ∀ n, c ≤ n → agN x c n = c ∨ (c < agN x c n ∧ agN x c n ≤ n ∧ agOk x (agN x c n) = true)
  | 0, h => .inl (by rw [agN])
  | n + 1, h => by
    rw [agN]
    split
    · exact .inl rfl
    split
    · rename_i h1 h2
      exact .inr ⟨by omega, Nat.le_refl _, h2⟩
    · rcases agN_or x c n (by omega) with e | ⟨e1, e2, e3⟩
      · exact .inl e
      · exact .inr ⟨e1, by omega, e3⟩
theorem agreed_ni {N : Nat} {g : RGh} {v : Nat} {x : Node} (h : NI N g v x) (hr : x.role = 2) (h0 : 0 ≤ x.commit) (h1 : x.commit ≤ x.log.length) : NI N g v (agreed x) := by
  refine ⟨h.id, h.lm, h.lt, h.vo, h.fu, h.r1, h.r2, h.ac, ?_⟩
  show CmL N g x.log (agI x) x.term
  obtain ⟨r1, r2, r3, r4⟩ := h.r2 hr
  unfold agI
  rcases agN_or x x.commit.toNat x.log.length (by omega) with e | ⟨e1, e2, e3⟩
  · rw [e, show ((x.commit.toNat : Nat) : Int) = x.commit by omega]
    exact h.cm
  · generalize agN x x.commit.toNat x.log.length = j at e1 e2 e3 ⊢
    unfold agOk at e3
    simp only [Bool.and_eq_true, decide_eq_true_eq] at e3
    obtain ⟨e3, e4⟩ := e3
    refine .inr ⟨x.term, j, Int.le_refl _, ⟨by rw [r1]; simp, by omega, by rw [← r2]; exact e2, by rw [← r2]; exact e4, ((List.range N).filter fun i => decide ((j : Int) ≤ x.match_.getD i zI_i64)), List.Pairwise.filter _ List.nodup_range, fun u hu => ?_, ?_⟩, Int.le_refl _, by rw [r2]⟩
    · rw [List.mem_filter, List.mem_range, decide_eq_true_eq] at hu
      have := r4 u hu.1
      exact ⟨hu.1, by omega⟩
    · have := countP_range zI_i64 x.match_ (fun k => decide ((j : Int) ≤ k))
      rw [r3] at this
      rw [← this]
      unfold quor cntGe at e3
      simp only [decide_eq_true_eq] at e3
      have := h.id.2
      omega
theorem rises_riseL {xs : List Int} {v : Int} (h : rises xs) : rises (riseL xs v) := by
  unfold riseL
  split
  · exact h
  rename_i hh
  obtain ⟨i, h1, h2, h3⟩ := first_bad (fun q => decide (xs.getD q zI_i64 < v)) xs.length
  have h2' : ∀ p, p < i → xs.getD p zI_i64 < v := fun p hp => by simpa [-List.getD_eq_getElem?_getD] using h2 p hp
  have h3' : i < xs.length → v ≤ xs.getD i zI_i64 := fun hi => by have := h3 hi; simp only [decide_eq_false_iff_not] at this; omega
  have e := lbn_eq h1 h2' h3'
  have hne : i < xs.length → v < xs.getD i zI_i64 := by
    intro hi
    have := h3' hi
    unfold hasI at hh
    rw [e] at hh
    simp only [Bool.and_eq_true, decide_eq_true_eq, not_and] at hh
    have := hh hi
    omega
  rw [e]
  have g1 : ∀ k, k < i → (xs.take i ++ [v] ++ xs.drop i).getD k zI_i64 = xs.getD k zI_i64 := by
    intro k hk
    rw [List.append_assoc, List.getD_eq_getElem?_getD, List.getElem?_append_left (by simp; omega), List.getElem?_take, if_pos hk, List.getD_eq_getElem?_getD]
  have g2 : (xs.take i ++ [v] ++ xs.drop i).getD i zI_i64 = v := by
    rw [List.append_assoc, List.getD_eq_getElem?_getD, List.getElem?_append_right (by simp; omega), List.length_take, Nat.min_eq_left h1, Nat.sub_self]
    rfl
  have g3 : ∀ k, i < k → (xs.take i ++ [v] ++ xs.drop i).getD k zI_i64 = xs.getD (k - 1) zI_i64 := by
    intro k hk
    rw [List.getD_eq_getElem?_getD, List.getElem?_append_right (by simp; omega), List.getElem?_drop, List.getD_eq_getElem?_getD]
    congr 2
    simp
    omega
  intro k hk hkl
  simp only [List.length_append, List.length_take, List.length_drop, List.length_singleton] at hkl
  rcases Nat.lt_trichotomy k i with c | c | c
  · rw [g1 k c, g1 (k - 1) (by omega)]
    exact h k hk (by omega)
  · subst c
    rw [g2, g1 (k - 1) (by omega)]
    exact h2' _ (by omega)
  · rw [g3 k c]
    by_cases c2 : k - 1 = i
    · rw [c2, g2]
      exact hne (by omega)
    · rw [g3 (k - 1) (by omega)]
      exact h (k - 1) (by omega) (by omega)
theorem mem_riseL {xs : List Int} {v u : Int} (h : u ∈ riseL xs v) : u ∈ xs ∨ u = v := by
  unfold riseL at h
  split at h
  · exact .inl h
  · simp only [List.mem_append, List.mem_singleton] at h
    rcases h with (h | h) | h
    · exact .inl (List.mem_of_mem_take h)
    · exact .inr h
    · exact .inl (List.mem_of_mem_drop h)
theorem rises_nodup {xs : List Int} (h : rises xs) (h0 : ∀ u ∈ xs, 0 ≤ u) : (xs.map Int.toNat).Nodup := by
  rw [List.Nodup, List.pairwise_map, List.pairwise_iff_getElem]
  intro i j hi hj hij
  have := rises_lt h hij hj
  rw [List.getD_eq_getElem?_getD, List.getD_eq_getElem?_getD, List.getElem?_eq_getElem hi, List.getElem?_eq_getElem hj] at this
  have h1 := h0 _ (List.getElem_mem hi)
  simp only [Option.getD_some] at this
  omega
theorem elect_gn {N : Nat} {g : RGh} (G : GI N g) {v : Nat} {x : Node} (h : NI N g v x) (hv : v < N) (hr : x.role = 1) (ht : 1 ≤ x.term) (hq : quor x x.votes.length = true) (hs : rises x.votes) (h0 : 0 ≤ x.commit) (h1 : x.commit ≤ x.log.length) :
    ∃ g', RExt g g' ∧ GI N g' ∧ NI N g' v (leadOf x) ∧ (∀ u y, u ≠ v → NI N g u y → NI N g' u y) ∧ g'.ld x.term = some v := by
  obtain ⟨r1, r2, r3, r4⟩ := h.r1 hr
  have q1 : (x.votes.map Int.toNat).Nodup := rises_nodup hs fun u hu => by obtain ⟨n, e, _⟩ := r4 u hu; omega
  have q2 : ∀ u ∈ x.votes.map Int.toNat, u < N ∧ g.vt u x.term = some v := by
    intro u hu
    obtain ⟨a, ha, rfl⟩ := List.mem_map.1 hu
    obtain ⟨n, e, e2, e3⟩ := r4 a ha
    subst e
    exact ⟨e2, e3⟩
  have q3 : N < 2 * (x.votes.map Int.toNat).length := by
    rw [List.length_map]
    unfold quor at hq
    have := h.id.2
    simp only [decide_eq_true_eq] at hq
    omega
  have hd : g.ld x.term = none := by
    cases hl : g.ld x.term with
    | none => rfl
    | some w =>
      exfalso
      obtain ⟨_, _, _, p4, p5, p6⟩ := G.q _ _ hl
      obtain ⟨u, u1, u2⟩ := meet q1 p4 (fun u hu => (q2 u hu).1) (fun u hu => (p5 u hu).1) q3 p6
      have e1 := (q2 u u1).2
      rw [(p5 u u2).2] at e1
      rw [Option.some.inj e1] at hl
      exact r3 hl
  have G' := el_gi G h hv hr hd ht q1 q2 q3
  have hid := h.id
  have hn : NI N (elG g v x.term x.log (x.votes.map Int.toNat)) v (led x) := by
    refine el_ni G h hr hd _ rfl rfl rfl rfl rfl rfl rfl ?_ (fun n hn hne => ?_) ?_
    · simp only [led, List.length_set, List.length_replicate]
      omega
    · simp only [led]
      rw [List.getD_eq_getElem?_getD, List.getElem?_set_ne (by omega), List.getElem?_replicate, if_pos (by omega)]
      exact Int.le_refl _
    · simp only [led]
      rw [hid.1, Int.toNat_natCast, getD_set_self (by simp; omega)]
      exact Int.le_refl _
  exact ⟨_, el_ext G _ _ hd, G', agreed_ni hn rfl h0 h1, fun u y hu hy => el_oth G _ _ hd hu hy, up1_self ..⟩
theorem asking_gn {N : Nat} {g : RGh} (G : GI N g) {v : Nat} {x : Node} (h : NI N g v x) (hv : v < N) (h0 : 0 ≤ x.commit) (h1 : x.commit ≤ x.log.length) (ht : 0 ≤ x.term) :
    ∃ g', RExt g g' ∧ GI N g' ∧ NI N g' v (if quor x 1 then leadOf (asking x) else asking x) ∧ (∀ u y, u ≠ v → NI N g u y → NI N g' u y) ∧ g'.vt v (x.term + 1) = some v ∧ g'.vl v (x.term + 1) = x.log ∧ (quor x 1 = true → g'.ld (x.term + 1) = some v) := by
  have hA : NI N g v ({ x with term := x.term + 1, voted := -1, role := 0 } : Node) := h.rise (by show x.term < x.term + 1; omega) rfl rfl rfl rfl rfl rfl
  have hn : g.vt v (x.term + 1) = none := (h.fu _ (by omega)).1
  have E := vote_ext v x.log hn
  have G1 : GI N (voteG g v (x.term + 1) v x.log) := vote_gi G hA hn hv (.inl rfl)
  have hB : NI N (voteG g v (x.term + 1) v x.log) v (asking x) := vote_ni (y := asking x) G hA hv hn rfl rfl rfl rfl h.id.1 (.inr ⟨rfl, rfl, by show [x.id] = _; rw [h.id.1]⟩) rfl
  have e1 : (voteG g v (x.term + 1) v x.log).vt v (x.term + 1) = some v := up2_self ..
  have e2 : (voteG g v (x.term + 1) v x.log).vl v (x.term + 1) = x.log := up2_self ..
  split
  · rename_i hq
    obtain ⟨g', E', G', hN, ho, hl⟩ := elect_gn G1 hB hv rfl (by show 1 ≤ x.term + 1; omega) hq (by intro i hi hi2; simp [asking] at hi2; omega) h0 h1
    obtain ⟨e3, e4⟩ := E'.vt _ _ _ e1
    exact ⟨g', E.trans E', G', hN, fun u y hu hy => ho u y hu (vote_oth G _ _ hn hu hy), e3, e4.trans e2, fun _ => hl⟩
  · rename_i hq
    exact ⟨_, E, G1, hB, fun u y hu hy => vote_oth G _ _ hn hu hy, e1, e2, fun e => absurd e hq⟩
theorem upM_up {l : List Entry} {b : List Entry} (h : upM l b.length (lstT b) = true) : upTo l b := by
  unfold upM at h
  simp only [Bool.or_eq_true, Bool.and_eq_true, decide_eq_true_eq] at h
  rcases h with h | ⟨h1, h2⟩
  · exact .inl h
  · exact .inr ⟨h1, by omega⟩
theorem voted_gn {N : Nat} {g : RGh} (G : GI N g) {v : Nat} {x : Node} {m : Mail} (h : NI N g v x) (hv : v < N) (hr : x.voted = -1 → x.role = 0) (hk : m.kind = 1) (M : MI N g m) :
    ∃ g', RExt g g' ∧ GI N g' ∧ NI N g' v (votedN x m) ∧ (∀ u y, u ≠ v → NI N g u y → NI N g' u y) ∧ (upOk x m = true → ∃ w : Nat, m.from_ = w ∧ g'.vt v x.term = some w) := by
  unfold votedN
  split
  · rename_i hu
    have hu' := hu
    unfold upOk at hu'
    simp only [Bool.and_eq_true, decide_eq_true_eq, Bool.or_eq_true] at hu'
    obtain ⟨⟨ht, hvo⟩, hup⟩ := hu'
    obtain ⟨f, m1, m2, m3, m4⟩ := M.k1 hk
    rw [ht] at m2 m3 m4
    by_cases e : x.voted = m.from_
    · have ex : ({ x with voted := m.from_ } : Node) = x := by rw [← e]
      rw [ex]
      exact ⟨g, RExt.refl g, G, h, fun _ _ _ hy => hy, fun _ => ⟨f, m1, h.vo.2.1 f (by omega)⟩⟩
    · have e2 : x.voted = -1 := by rcases hvo with h | h; exact h; exact absurd h e
      have hn := h.vo.1 e2
      rw [m3, m4] at hup
      refine ⟨_, vote_ext f x.log hn, vote_gi G h hn (G.v _ _ _ m2).1 (.inr ⟨m2, upM_up hup⟩), vote_ni G h hv hn rfl rfl rfl rfl m1 (.inl (hr e2)) rfl, fun u y hu hy => vote_oth G _ _ hn hu hy, fun _ => ⟨f, m1, up2_self ..⟩⟩
  · rename_i hu
    exact ⟨g, RExt.refl g, G, h, fun _ _ _ hy => hy, fun e => absurd e hu⟩
theorem granted_gn {N : Nat} {g : RGh} (G : GI N g) {v : Nat} {x : Node} {m : Mail} (h : NI N g v x) (hv : v < N) (ht : x.role ≠ 0 → 1 ≤ x.term) (hs : rises x.votes) (h0 : 0 ≤ x.commit) (h1 : x.commit ≤ x.log.length) (hk : m.kind = 2) (hto : m.to_ = x.id) (M : MI N g m) :
    ∃ g', RExt g g' ∧ GI N g' ∧ NI N g' v (grantedN x m) ∧ (∀ u y, u ≠ v → NI N g u y → NI N g' u y) ∧ (x.role ≠ 2 → (grantedN x m).role = 2 → g'.ld x.term = some v) := by
  unfold grantedN
  split
  · rename_i hc
    simp only [Bool.and_eq_true, decide_eq_true_eq] at hc
    obtain ⟨⟨hok, hmt⟩, hr⟩ := hc
    obtain ⟨f, w, m1, m2, m3, m4⟩ := M.k2 hk hok
    rw [hmt] at m4
    have hw : w = v := by have := h.id.1; omega
    subst hw
    have hN : NI N g w (riseN x m) := by
      refine ⟨h.id, h.lm, h.lt, h.vo, h.fu, fun _ => ?_, fun e => (by rw [show (riseN x m).role = x.role from rfl, hr] at e; cases e), h.ac, h.cm⟩
      obtain ⟨a1, a2, a3, a4⟩ := h.r1 hr
      refine ⟨a1, a2, a3, fun u hu => ?_⟩
      rcases mem_riseL hu with hu | hu
      · exact a4 u hu
      · exact ⟨f, by omega, m3, m4⟩
    split
    · rename_i hq
      obtain ⟨g', E', G', hN', ho, hl⟩ := elect_gn G hN hv hr (ht (by omega)) hq (rises_riseL hs) h0 h1
      exact ⟨g', E', G', hN', ho, fun _ _ => hl⟩
    · exact ⟨g, RExt.refl g, G, hN, fun _ _ _ hy => hy, fun h1 h2 => absurd h2 h1⟩
  · exact ⟨g, RExt.refl g, G, h, fun _ _ _ hy => hy, fun h1 h2 => absurd h2 h1⟩
theorem told_ni {N : Nat} {g : RGh} {v : Nat} {x : Node} {m : Mail} (h : NI N g v x) (h0 : 0 ≤ x.commit) (h1 : x.commit ≤ x.log.length) (hk : m.kind = 4) (hm0 : 0 ≤ m.from_) (M : MI N g m) : NI N g v (toldN x m) := by
  unfold toldN
  split
  · exact h
  rename_i hc
  have ht : m.term = x.term := Classical.byContradiction fun e => hc (.inl e)
  have hr : x.role = 2 := Classical.byContradiction fun e => hc (.inr e)
  split
  · rename_i hok
    obtain ⟨f, m1, m2, m3⟩ := M.k4 hk hok
    rw [ht] at m3
    refine agreed_ni ?_ hr h0 h1
    refine ⟨h.id, h.lm, h.lt, h.vo, h.fu, h.r1, fun e => ?_, h.ac, h.cm⟩
    obtain ⟨r1, r2, r3, r4⟩ := h.r2 hr
    refine ⟨r1, r2, by show (x.match_.set _ _).length = N; rw [List.length_set]; exact r3, fun n hn => ?_⟩
    show (x.match_.set m.from_.toNat (toldT x m)).getD n zI_i64 ≤ (g.ak n x.term : Int)
    rw [m1, Int.toNat_natCast]
    by_cases e : n = f
    · subst e
      rw [getD_set_self (by omega)]
      unfold toldT
      have := r4 n hn
      rw [m1, Int.toNat_natCast]
      split <;> omega
    · rw [List.getD_eq_getElem?_getD, List.getElem?_set_ne (fun h => e h.symm), ← List.getD_eq_getElem?_getD]
      exact r4 n hn
  · exact ⟨h.id, h.lm, h.lt, h.vo, h.fu, h.r1, h.r2, h.ac, h.cm⟩
structure LF (l : List Entry) : Prop where
  n : l.length ≤ 40
  e : ∀ x ∈ l, entryFault x = 0
  m : Mono l
theorem mono_of {l : List Entry} (h : ∀ i, 0 < i → i < l.length → tmE l (i - 1) ≤ tmE l i) : Mono l := by
  intro i j hij hj
  induction j with
  | zero => obtain rfl : i = 0 := by omega
            exact Int.le_refl _
  | succ j ih =>
    rcases Nat.eq_or_lt_of_le hij with rfl | e
    · exact Int.le_refl _
    · have h1 := ih (by omega) (by omega)
      have h2 := h (j + 1) (by omega) hj
      simp only [Nat.add_sub_cancel] at h2
      omega
theorem lf_iff {l : List Entry} : logFault l = 0 ↔ LF l := by
  unfold logFault
  constructor
  · intro h
    split at h
    · cases h
    have hs := scan_zero.1 h
    refine ⟨by omega, (all_getD zEntry).1 fun i hi => ?_, mono_of fun i h0 hi => ?_⟩
    · have := hs i hi
      unfold logBad at this
      split at this
      · rename_i g; exact absurd this g
      · rename_i g; simpa [-List.getD_eq_getElem?_getD] using g
    · have := hs i hi
      unfold logBad at this
      split at this
      · rename_i g; exact absurd this g
      split at this
      · cases this
      · rename_i g
        unfold tmE
        omega
  · intro h
    rw [if_neg (by have := h.n; omega)]
    refine scan_zero.2 fun i hi => ?_
    unfold logBad
    have h1 := (all_getD zEntry).2 h.e i hi
    rw [if_neg (by omega)]
    refine if_neg fun ⟨h0, h2⟩ => ?_
    have := h.m (i - 1) i (by omega) hi
    unfold tmE at this
    omega
theorem entry_term {x : Entry} (h : entryFault x = 0) : 1 ≤ x.term ∧ x.term ≤ 100000 := by
  unfold entryFault at h
  split at h
  · cases h
  · rename_i g
    simp only [Bool.or_eq_true, Bool.not_eq_true', not_or, Bool.not_eq_false] at g
    have := g.1.1
    unfold inR at this
    simp only [Bool.and_eq_true, decide_eq_true_eq] at this
    exact this
theorem LF.tm {l : List Entry} (h : LF l) {i : Nat} (hi : i < l.length) : 1 ≤ tmE l i ∧ tmE l i ≤ 100000 := entry_term (h.e _ (getD_mem zEntry hi))
theorem LF.le {l : List Entry} (h : LF l) {T : Int} (ht : lstT l ≤ T) {i : Nat} (hi : i < l.length) : tmE l i ≤ T := by
  have := h.m i (l.length - 1) (by omega) (by omega)
  rw [lst_tm (by omega)] at ht
  omega
theorem LF.nil : LF [] := ⟨by simp, by simp, by intro i j _ h; simp at h⟩
theorem isId_iff {x : Node} (hp : 1 ≤ x.peers ∧ x.peers ≤ 5) {i : Int} : isId x i = true ↔ 0 ≤ i ∧ i < x.peers := by
  unfold isId inR
  rw [wrap_small (by omega) (by omega)]
  simp only [Bool.and_eq_true, decide_eq_true_eq]
  omega
structure NF (x : Node) : Prop where
  p : 1 ≤ x.peers ∧ x.peers ≤ 5
  i : 0 ≤ x.id ∧ x.id < x.peers
  t : 0 ≤ x.term ∧ x.term ≤ 100000
  v : x.voted = -1 ∨ (0 ≤ x.voted ∧ x.voted < x.peers)
  r : 0 ≤ x.role ∧ x.role ≤ 2
  l : LF x.log
  lt : lstT x.log ≤ x.term
  c : 0 ≤ x.commit ∧ x.commit ≤ x.log.length
  vo : rises x.votes ∧ (0 < x.votes.length → x.role = 1) ∧ (∀ u ∈ x.votes, 0 ≤ u ∧ u < x.peers)
  n : (x.next.length : Int) = due x ∧ (x.match_.length : Int) = due x
  nr : (∀ u ∈ x.next, 1 ≤ u ∧ u ≤ (x.log.length : Int) + 1) ∧ (∀ u ∈ x.match_, 0 ≤ u ∧ u ≤ (x.log.length : Int))
  rr : x.role ≠ 0 → x.voted = x.id ∧ x.term ≠ 0
theorem rangeOk_iff {xs : List Int} {a b : Int} : rangeOk xs a b ↔ ∀ u ∈ xs, a ≤ u ∧ u ≤ b := by
  unfold rangeOk
  rw [← all_getD zI_i64]
  unfold inR
  simp only [Bool.and_eq_true, decide_eq_true_eq]
theorem nf_iff {x : Node} : nodeFault x = 0 ↔ NF x := by
  constructor
  · intro h
    obtain ⟨⟨a1, a2, a3, a4, a5, a6, a7, a8⟩, b, c, d, e, f, g, i, j⟩ := node_ok h
    have hp : 1 ≤ x.peers ∧ x.peers ≤ 5 := ⟨a1, a2⟩
    refine ⟨hp, ⟨a3, a4⟩, ⟨a5, a6⟩, ?_, ⟨a7, a8⟩, lf_iff.1 b, c, d, ⟨e.1, fun h0 => Classical.byContradiction fun hh => e.2.1 ⟨h0, hh⟩, ?_⟩, e.2.2.2, ⟨rangeOk_iff.1 f, rangeOk_iff.1 g⟩, i⟩
    · rcases j with j | j
      · exact .inl j
      · exact .inr ((isId_iff hp).1 j)
    · exact (all_getD zI_i64).1 fun k hk => (isId_iff hp).1 (e.2.2.1 k hk)
  · intro h
    have h1 : nodeRange x = true := by
      unfold nodeRange
      have h2 : isId x x.id = true := (isId_iff h.p).2 h.i
      have h3 : (decide (x.voted = -1) || isId x x.voted) = true := by
        rcases h.v with e | e
        · simp [e]
        · rw [(isId_iff h.p).2 e]; simp
      rw [h2, h3]
      have := h.p; have := h.t; have := h.r
      simp [inR]
      omega
    unfold nodeFault
    rw [if_neg (by rw [h1]; simp), if_neg (by rw [lf_iff.2 h.l]; simp), if_neg (by have := h.lt; unfold lstT at this; omega), if_neg (by have := h.c; simp [inR]; omega), if_neg, if_neg, if_neg]
    · rintro ⟨g1, g2⟩
      have := h.rr g1
      omega
    · rintro (g | g)
      · exact g (rangeOk_iff.2 h.nr.1)
      · exact g (rangeOk_iff.2 h.nr.2)
    · refine fun g => g ⟨h.vo.1, fun ⟨g1, g2⟩ => g2 (h.vo.2.1 g1), fun i hi => ?_, h.n⟩
      exact (isId_iff h.p).2 ((all_getD zI_i64).2 h.vo.2.2 i hi)
theorem due_eq {x : Node} (h : NF x) : due x = if x.role = 2 then x.peers else 0 := rfl
theorem mem_getD {xs : List Int} {p : Int → Prop} (h : ∀ u ∈ xs, p u) {i : Nat} (hi : i < xs.length) : p (xs.getD i zI_i64) := h _ (getD_mem zI_i64 hi)
theorem nf_calm {x y : Node} (h : NF x) (h1 : y.id = x.id) (h2 : y.peers = x.peers) (h3 : y.log = x.log) (h4 : y.voted = -1 ∨ (0 ≤ y.voted ∧ y.voted < x.peers)) (h5 : y.role = 0) (h6 : 0 ≤ y.commit ∧ y.commit ≤ x.commit) (h7 : 0 ≤ y.term ∧ y.term ≤ 100000 ∧ x.term ≤ y.term) (h8 : y.votes = [] ∧ y.next = [] ∧ y.match_ = []) : NF y := by
  have hc := h.c
  have hl := h.lt
  refine ⟨by rw [h2]; exact h.p, by rw [h1, h2]; exact h.i, ⟨h7.1, h7.2.1⟩, by rw [h2]; exact h4, by omega, by rw [h3]; exact h.l, by rw [h3]; omega, by rw [h3]; omega, ?_, ?_, ?_, fun e => absurd h5 e⟩
  · rw [h8.1]
    exact ⟨by intro i _ hi; simp at hi, by simp, by simp⟩
  · unfold due
    rw [h8.2.1, h8.2.2, h5]
    simp
  · rw [h8.2.1, h8.2.2]
    simp
theorem nf_newer {x : Node} {m : Mail} (h : NF x) (hm : 1 ≤ m.term ∧ m.term ≤ 100000) : NF (newer x m) := by
  unfold newer
  split
  · have := h.t
    have := h.c
    exact nf_calm h rfl rfl rfl (.inl rfl) rfl ⟨h.c.1, Int.le_refl _⟩ ⟨by show 0 ≤ m.term; omega, by show m.term ≤ 100000; omega, by show x.term ≤ m.term; omega⟩ ⟨rfl, rfl, rfl⟩
  · exact h
theorem nf_agreed {x : Node} (h : NF x) : NF (agreed x) := by
  have := agI_bd h.c.1 h.c.2
  exact ⟨h.p, h.i, h.t, h.v, h.r, h.l, h.lt, ⟨by have := h.c.1; show 0 ≤ agI x; omega, this.2⟩, h.vo, h.n, h.nr, h.rr⟩
theorem nf_lead {x : Node} (h : NF x) (hr : x.role = 1) : NF (leadOf x) := by
  refine nf_agreed ⟨h.p, h.i, h.t, h.v, by show 0 ≤ (2 : Int) ∧ (2 : Int) ≤ 2; omega, h.l, h.lt, h.c, ⟨by intro i _ hi; simp [led] at hi, by simp [led], by simp [led]⟩, ?_, ⟨fun u hu => ?_, fun u hu => ?_⟩, fun _ => h.rr (by omega)⟩
  · have := h.p
    simp [led, due]
    omega
  · simp only [led] at hu
    have := List.eq_of_mem_replicate hu
    subst this
    show 1 ≤ (x.log.length : Int) + 1 ∧ (x.log.length : Int) + 1 ≤ (x.log.length : Int) + 1
    omega
  · simp only [led] at hu
    show 0 ≤ u ∧ u ≤ (x.log.length : Int)
    rcases List.mem_or_eq_of_mem_set hu with hu | rfl
    · have := List.eq_of_mem_replicate hu
      omega
    · omega
theorem nf_asking {x : Node} (h : NF x) (ht : x.term ≠ 100000) (hr : x.role ≠ 2) : NF (asking x) := by
  have h1 := h.t
  have h2 := h.lt
  have h3 := h.n
  have h4 := h.i
  unfold due at h3
  rw [if_neg hr] at h3
  refine ⟨h.p, h.i, ⟨by show 0 ≤ x.term + 1; omega, by show x.term + 1 ≤ 100000; omega⟩, .inr h4, by show 0 ≤ (1 : Int) ∧ (1 : Int) ≤ 2; omega, h.l, by show lstT x.log ≤ x.term + 1; omega, h.c, ⟨by intro i h0 hi; simp [asking] at hi; omega, fun _ => rfl, fun u hu => ?_⟩, h3, h.nr, fun _ => ⟨rfl, by show x.term + 1 ≠ 0; omega⟩⟩
  simp only [asking, List.mem_singleton] at hu
  subst hu
  exact h4
theorem nf_voted {x : Node} {m : Mail} (h : NF x) (hf : 0 ≤ m.from_ ∧ m.from_ < x.peers) (hne : m.from_ ≠ x.id) : NF (votedN x m) := by
  unfold votedN
  split
  · rename_i hu
    unfold upOk at hu
    simp only [Bool.and_eq_true, decide_eq_true_eq, Bool.or_eq_true] at hu
    refine ⟨h.p, h.i, h.t, .inr hf, h.r, h.l, h.lt, h.c, h.vo, h.n, h.nr, fun e => ?_⟩
    have := h.rr e
    have := h.i
    rcases hu.1.2 with g | g <;> omega
  · exact h
theorem nf_rise {x : Node} {m : Mail} (h : NF x) (hf : 0 ≤ m.from_ ∧ m.from_ < x.peers) (hr : x.role = 1) : NF (riseN x m) := by
  refine ⟨h.p, h.i, h.t, h.v, h.r, h.l, h.lt, h.c, ⟨rises_riseL h.vo.1, fun _ => hr, fun u hu => ?_⟩, h.n, h.nr, h.rr⟩
  rcases mem_riseL hu with hu | rfl
  · exact h.vo.2.2 u hu
  · exact hf
theorem nf_granted {x : Node} {m : Mail} (h : NF x) (hf : 0 ≤ m.from_ ∧ m.from_ < x.peers) : NF (grantedN x m) := by
  unfold grantedN
  split
  · rename_i hc
    simp only [Bool.and_eq_true, decide_eq_true_eq] at hc
    split
    · exact nf_lead (nf_rise h hf hc.2) hc.2
    · exact nf_rise h hf hc.2
  · exact h
theorem lead_len {x : Node} (h : NF x) (hr : x.role = 2) : (x.next.length : Int) = x.peers ∧ (x.match_.length : Int) = x.peers := by
  have := h.n
  unfold due at this
  rwa [if_pos hr] at this
theorem nf_told {x : Node} {m : Mail} (h : NF x) (hf : 0 ≤ m.from_ ∧ m.from_ < x.peers) (hi : 0 ≤ m.index) : NF (toldN x m) := by
  unfold toldN
  split
  · exact h
  rename_i hc
  have hr : x.role = 2 := Classical.byContradiction fun e => hc (.inr e)
  obtain ⟨n1, n2⟩ := lead_len h hr
  have hm := mem_getD h.nr.2 (i := m.from_.toNat) (by omega)
  have hx := mem_getD h.nr.1 (i := m.from_.toNat) (by omega)
  split
  · have hT : 0 ≤ toldT x m ∧ toldT x m ≤ x.log.length := by
      unfold toldT
      split
      · omega
      · exact hm
    refine nf_agreed ⟨h.p, h.i, h.t, h.v, h.r, h.l, h.lt, h.c, h.vo, ?_, ⟨fun u hu => ?_, fun u hu => ?_⟩, h.rr⟩
    · refine ⟨?_, ?_⟩
      · show ((x.next.set m.from_.toNat (toldT x m + 1)).length : Int) = due x
        rw [List.length_set]; exact h.n.1
      · show ((x.match_.set m.from_.toNat (toldT x m)).length : Int) = due x
        rw [List.length_set]; exact h.n.2
    · rcases List.mem_or_eq_of_mem_set hu with hu | rfl
      · exact h.nr.1 u hu
      · show 1 ≤ toldT x m + 1 ∧ toldT x m + 1 ≤ (x.log.length : Int) + 1
        omega
    · rcases List.mem_or_eq_of_mem_set hu with hu | rfl
      · exact h.nr.2 u hu
      · exact hT
  · refine ⟨h.p, h.i, h.t, h.v, h.r, h.l, h.lt, h.c, h.vo, ?_, ⟨fun u hu => ?_, h.nr.2⟩, h.rr⟩
    · refine ⟨?_, h.n.2⟩
      show ((x.next.set m.from_.toNat _).length : Int) = due x
      rw [List.length_set]; exact h.n.1
    · rcases List.mem_or_eq_of_mem_set hu with hu | rfl
      · exact h.nr.1 u hu
      · show 1 ≤ max (max 1 _) _ ∧ max (max 1 _) _ ≤ (x.log.length : Int) + 1
        omega
theorem tm_drop (l : List Entry) (k i : Nat) : tmE (l.drop k) i = tmE l (k + i) := by
  unfold tmE
  rw [List.getD_eq_getElem?_getD, List.getElem?_drop, ← List.getD_eq_getElem?_getD]
theorem tm_take {l : List Entry} {k i : Nat} (h : i < k) : tmE (l.take k) i = tmE l i := by
  unfold tmE
  rw [List.getD_eq_getElem?_getD, List.getElem?_take, if_pos h, ← List.getD_eq_getElem?_getD]
theorem tm_right {a b : List Entry} {i : Nat} (h : a.length ≤ i) : tmE (a ++ b) i = tmE b (i - a.length) := by
  unfold tmE
  rw [List.getD_eq_getElem?_getD, List.getElem?_append_right h, ← List.getD_eq_getElem?_getD]
theorem tm_left {a b : List Entry} {i : Nat} (h : i < a.length) : tmE (a ++ b) i = tmE a i := (pre_tm (List.prefix_append a b) h).symm
theorem LF.take {l : List Entry} (h : LF l) (k : Nat) : LF (l.take k) := by
  refine ⟨by have := h.n; simp only [List.length_take]; omega, fun x hx => h.e x (List.mem_of_mem_take hx), fun i j hij hj => ?_⟩
  simp only [List.length_take] at hj
  rw [tm_take (by omega), tm_take (by omega)]
  exact h.m i j hij (by omega)
theorem LF.drop {l : List Entry} (h : LF l) (k : Nat) : LF (l.drop k) := by
  refine ⟨by have := h.n; simp only [List.length_drop]; omega, fun x hx => h.e x (List.mem_of_mem_drop hx), fun i j hij hj => ?_⟩
  simp only [List.length_drop] at hj
  rw [tm_drop, tm_drop]
  exact h.m _ _ (by omega) (by omega)
theorem lst_le {l : List Entry} {T : Int} (h0 : 0 ≤ T) (h : ∀ i, i < l.length → tmE l i ≤ T) : lstT l ≤ T := by
  rcases Nat.eq_zero_or_pos l.length with e | e
  · rw [lst_nil e]; exact h0
  · rw [lst_tm e]; exact h _ (by omega)
theorem LF.lst {l : List Entry} (h : LF l) : 0 ≤ lstT l ∧ lstT l ≤ 100000 := by
  rcases Nat.eq_zero_or_pos l.length with e | e
  · rw [lst_nil e]; omega
  · rw [lst_tm e]; have := h.tm (i := l.length - 1) (by omega); omega
theorem lf_take7 {a more : List Entry} {n : Nat} (ha : LF a) (hm : LF more) (hn : n ≤ a.length) (hl : 0 < more.length → 0 < n → tmE a (n - 1) ≤ tmE more 0) (h40 : (take7 a more n).length ≤ 40) :
    LF (take7 a more n) ∧ ∀ T, (∀ i, i < a.length → tmE a i ≤ T) → (∀ i, i < more.length → tmE more i ≤ T) → ∀ i, i < (take7 a more n).length → tmE (take7 a more n) i ≤ T := by
  obtain ⟨k, h1, h2, h3⟩ := first_bad (fun k => !bad7 a more n k) more.length
  have hlo : ∀ q, q < k → bad7 a more n q = false := fun q hq => by simpa using h2 q hq
  have hg : ∀ q, q < k → n + q < a.length ∧ tmE a (n + q) = tmE more q := by
    intro q hq
    have := hlo q hq
    unfold bad7 at this
    simp only [Bool.or_eq_false_iff, decide_eq_false_iff_not, Bool.not_eq_false', decide_eq_true_eq] at this
    exact ⟨by omega, this.2⟩
  rcases Nat.lt_or_ge k more.length with h | h
  · have e := take7_at h hlo (by simpa using h3 h)
    have hk : n + k ≤ a.length := by
      rcases Nat.eq_zero_or_pos k with rfl | h0
      · omega
      · have := (hg (k - 1) (by omega)).1; omega
    have hl1 : (a.take (n + k)).length = n + k := take_len hk
    rw [e] at h40 ⊢
    refine ⟨⟨h40, fun x hx => ?_, mono_of fun i h0 hi => ?_⟩, fun T g1 g2 i hi => ?_⟩
    · rcases List.mem_append.1 hx with hx | hx
      · exact ha.e x (List.mem_of_mem_take hx)
      · exact hm.e x (List.mem_of_mem_drop hx)
    · simp only [List.length_append, List.length_drop, hl1] at hi
      rcases Nat.lt_trichotomy i (n + k) with c | c | c
      · rw [tm_left (by omega), tm_left (by omega), tm_take (by omega), tm_take (by omega)]
        exact ha.m _ _ (by omega) (by omega)
      · rw [tm_left (by omega), tm_take (by omega), tm_right (by omega), hl1, tm_drop, c, Nat.sub_self, Nat.add_zero]
        rcases Nat.eq_zero_or_pos k with hk0 | hk0
        · rw [hk0]
          exact hl (by omega) (by omega)
        · have e2 := (hg (k - 1) (by omega)).2
          rw [show n + k - 1 = n + (k - 1) by omega, e2]
          exact hm.m _ _ (by omega) h
      · rw [tm_right (by omega), tm_right (by omega), hl1, tm_drop, tm_drop]
        exact hm.m _ _ (by omega) (by omega)
    · simp only [List.length_append, List.length_drop, hl1] at hi
      rcases Nat.lt_or_ge i (n + k) with c | c
      · rw [tm_left (by omega), tm_take c]
        exact g1 i (by omega)
      · rw [tm_right (by omega), hl1, tm_drop]
        exact g2 _ (by omega)
  · obtain rfl : k = more.length := by omega
    rw [take7_all hlo]
    exact ⟨ha, fun T g1 _ => g1⟩
structure MF (p i : Int) (m : Mail) : Prop where
  k : 1 ≤ m.kind ∧ m.kind ≤ 4
  f : 0 ≤ m.from_ ∧ m.from_ < p ∧ m.from_ ≠ i
  o : m.to_ = i
  t : 1 ≤ m.term ∧ m.term ≤ 100000
  x : 0 ≤ m.index ∧ m.index ≤ 40
  a : 0 ≤ m.last ∧ m.last ≤ m.term
  c : 0 ≤ m.commit ∧ m.commit ≤ 40
  l : LF m.entries
  g : mailForm m
theorem mf_iff {x : Node} (hp : 1 ≤ x.peers ∧ x.peers ≤ 5) {m : Mail} : mailFault x m = 0 ↔ MF x.peers x.id m := by
  constructor
  · intro h
    unfold mailFault at h
    split at h
    · cases h
    rename_i g1
    split at h
    · cases h
    rename_i g2
    split at h
    · rename_i g3; exact absurd h g3
    rename_i g3
    split at h
    · cases h
    rename_i g4
    have g1 : inR m.kind 1 4 = true := by simpa using g1
    have g2 : mailRange x m = true := by simpa using g2
    have g4 : mailForm m := by simpa using g4
    unfold mailRange at g2
    simp only [Bool.and_eq_true, Bool.not_eq_true', decide_eq_false_iff_not, decide_eq_true_eq] at g2
    obtain ⟨⟨⟨⟨⟨⟨a1, a2⟩, a3⟩, a4⟩, a5⟩, a6⟩, a7⟩ := g2
    have a1 := (isId_iff hp).1 a1
    unfold inR at g1 a4 a5 a6 a7
    simp only [Bool.and_eq_true, decide_eq_true_eq] at g1 a4 a5 a6 a7
    exact ⟨g1, ⟨a1.1, a1.2, a2⟩, a3, a4, a5, a6, a7, lf_iff.1 (by simpa using g3), g4⟩
  · intro h
    have g2 : mailRange x m = true := by
      unfold mailRange
      rw [(isId_iff hp).2 ⟨h.f.1, h.f.2.1⟩]
      have := h.f.2.2; have := h.o; have := h.t; have := h.x; have := h.a; have := h.c
      simp [inR]
      omega
    have g1 : inR m.kind 1 4 = true := by have := h.k; simp [inR]; omega
    unfold mailFault
    rw [if_neg (by rw [g1]; simp), if_neg (by rw [g2]; simp), if_neg (by rw [lf_iff.2 h.l]; simp), if_neg (fun g => g h.g)]
theorem form_none {m : Mail} (h1 : m.entries = []) (h2 : m.ok = true → m.kind = 2 ∨ m.kind = 4) (h3 : mailZeros m) (h4 : m.index = 0 → m.last = 0) : mailForm m :=
  ⟨fun h => by rw [h1] at h; simp at h, h2, h3, h4⟩
theorem lst_zero {l : List Entry} (h : (l.length : Int) = 0) : lstT l = 0 := lst_nil (by omega)
theorem mf_vote {x : Node} (h : NF x) (ht : x.term ≠ 100000) {i : Nat} (hi : (i : Int) ≠ x.id) : MF x.peers i (voteM x i) := by
  have h1 := h.t; have h2 := h.lt; have h3 := h.l.n; have h4 := h.l.lst; have h5 := h.i
  refine ⟨⟨by show (1 : Int) ≤ 1; omega, by show (1 : Int) ≤ 4; omega⟩, ⟨h5.1, h5.2, fun e => hi e.symm⟩, rfl, ⟨by show 1 ≤ x.term + 1; omega, by show x.term + 1 ≤ 100000; omega⟩, ⟨by show 0 ≤ (x.log.length : Int); omega, by show (x.log.length : Int) ≤ 40; omega⟩, ⟨h4.1, by show lstT x.log ≤ x.term + 1; omega⟩, ⟨by show (0 : Int) ≤ 0; omega, by show (0 : Int) ≤ 40; omega⟩, LF.nil, form_none rfl (fun h => by cases h) ⟨fun _ => rfl, fun e => ?_, fun e => ?_⟩ lst_zero⟩
  · have : (1 : Int) = 2 := e
    omega
  · have : (1 : Int) = 4 := e
    omega
theorem mf_grant {x : Node} {m : Mail} (h : NF x) (ht : 1 ≤ x.term) (hf : m.from_ ≠ x.id) : MF x.peers m.from_ (grantM x m) := by
  have h1 := h.t; have h5 := h.i
  refine ⟨⟨by show (1 : Int) ≤ 2; omega, by show (2 : Int) ≤ 4; omega⟩, ⟨h5.1, h5.2, fun e => hf e.symm⟩, rfl, ⟨ht, h1.2⟩, ⟨by show (0 : Int) ≤ 0; omega, by show (0 : Int) ≤ 40; omega⟩, ⟨by show (0 : Int) ≤ 0; omega, by show 0 ≤ x.term; omega⟩, ⟨by show (0 : Int) ≤ 0; omega, by show (0 : Int) ≤ 40; omega⟩, LF.nil, form_none rfl (fun _ => .inl rfl) ⟨fun e => ?_, fun e => ⟨rfl, rfl, rfl⟩, fun e => ⟨rfl, rfl⟩⟩ (fun _ => rfl)⟩
  rfl
theorem mf_base {x : Node} {m : Mail} (h : NF x) (ht : 1 ≤ x.term) (hf : m.from_ ≠ x.id) (b : Bool) {k : Int} (hk : 0 ≤ k ∧ k ≤ 40) : MF x.peers m.from_ { baseM x m with ok := b, index := k } := by
  have h1 := h.t; have h5 := h.i
  refine ⟨⟨by show (1 : Int) ≤ 4; omega, by show (4 : Int) ≤ 4; omega⟩, ⟨h5.1, h5.2, fun e => hf e.symm⟩, rfl, ⟨ht, h1.2⟩, hk, ⟨by show (0 : Int) ≤ 0; omega, by show 0 ≤ x.term; omega⟩, ⟨by show (0 : Int) ≤ 0; omega, by show (0 : Int) ≤ 40; omega⟩, LF.nil, form_none rfl (fun _ => .inr rfl) ⟨fun e => rfl, fun e => ?_, fun e => ⟨rfl, rfl⟩⟩ (fun _ => rfl)⟩
  have : (4 : Int) = 2 := e
  omega
theorem mf_spread {x : Node} (h : NF x) (ht : 1 ≤ x.term) {i k : Nat} (hi : (i : Int) ≠ x.id) (hk : k ≤ x.log.length) : MF x.peers i (spreadM x i k) := by
  have h1 := h.t; have h2 := h.lt; have h3 := h.l.n; have h5 := h.i; have h6 := h.c
  have hE : LF (((x.log.take (min x.log.length (k + 4))).drop k)) := (h.l.take _).drop _
  have hle : ∀ q, q < x.log.length → tmE x.log q ≤ x.term := fun q hq => h.l.le h2 hq
  have hlast : lstT (x.log.take k) ≤ x.term := lst_le (by omega) fun q hq => by
    simp only [List.length_take] at hq
    rw [tm_take (by omega)]
    exact hle q (by omega)
  refine ⟨⟨by show (1 : Int) ≤ 3; omega, by show (3 : Int) ≤ 4; omega⟩, ⟨h5.1, h5.2, fun e => hi e.symm⟩, rfl, ⟨ht, h1.2⟩, ⟨by show 0 ≤ (k : Int); omega, by show (k : Int) ≤ 40; omega⟩, ⟨(h.l.take k).lst.1, hlast⟩, ⟨h6.1, by show x.commit ≤ 40; omega⟩, hE, ⟨fun h0 => ⟨rfl, ?_, ?_⟩, (fun h => by cases h), ⟨fun e => ?_, fun e => ?_, fun e => ?_⟩, fun e => ?_⟩⟩
  · show lstT ((x.log.take (min x.log.length (k + 4))).drop k) ≤ x.term
    refine lst_le (by omega) fun q hq => ?_
    simp only [List.length_drop, List.length_take] at hq
    rw [tm_drop, tm_take (by omega)]
    exact hle _ (by omega)
  · have h0 : 0 < ((x.log.take (min x.log.length (k + 4))).drop k).length := h0
    simp only [List.length_drop, List.length_take] at h0
    show lstT (x.log.take k) ≤ tmE ((x.log.take (min x.log.length (k + 4))).drop k) 0
    rw [tm_drop, tm_take (by omega)]
    refine lst_le (by have := h.l.tm (i := k) (by omega); simpa using (by omega : 0 ≤ tmE x.log k)) fun q hq => ?_
    simp only [List.length_take] at hq
    rw [tm_take (by omega)]
    exact h.l.m _ _ (by omega) (by omega)
  · have : (3 : Int) = 1 := e
    omega
  · have : (3 : Int) = 2 := e
    omega
  · have : (3 : Int) = 4 := e
    omega
  · have : (k : Int) = 0 := e
    obtain rfl : k = 0 := by omega
    exact lst_nil (by simp)
theorem newer_same {x : Node} {m : Mail} : (newer x m).id = x.id ∧ (newer x m).peers = x.peers ∧ (newer x m).log = x.log ∧ (newer x m).commit = x.commit ∧ m.term ≤ (newer x m).term ∧ x.term ≤ (newer x m).term := by
  unfold newer
  split
  · rename_i h
    exact ⟨rfl, rfl, rfl, rfl, Int.le_refl _, by show x.term ≤ m.term; omega⟩
  · rename_i h
    exact ⟨rfl, rfl, rfl, rfl, by omega, Int.le_refl _⟩
theorem nf_follow {x : Node} (h : NF x) : NF (followed x) := by
  have := h.t
  exact nf_calm h rfl rfl rfl h.v rfl ⟨h.c.1, Int.le_refl _⟩ ⟨this.1, this.2, Int.le_refl _⟩ ⟨rfl, rfl, rfl⟩
structure TakenOk (x : Node) (m : Mail) : Prop where
  t : ¬ m.term < x.term
  r : ¬ x.role = 2
  f : fitsM x.log m.index m.last = true
  n : (takenL x m).length ≤ 40
  c : x.commit ≤ (commonN x.log (takenL x m) : Int)
theorem taken_cases {x : Node} {m : Mail} (h : takenC x m = 0) : (m.term < x.term ∧ takenN x m = x ∧ takenM x m = baseM x m) ∨ (¬ m.term < x.term ∧ ¬ x.role = 2 ∧ fitsM x.log m.index m.last = false ∧ takenN x m = followed x ∧ takenM x m = { baseM x m with index := min (m.index - 1) x.log.length }) ∨ (TakenOk x m ∧ takenN x m = takenOk x m ∧ takenM x m = { baseM x m with ok := true, index := takenEnd m }) := by
  by_cases h0 : m.term < x.term
  · exact .inl ⟨h0, (taken0 h0).1, (taken0 h0).2.1⟩
  by_cases hr : x.role = 2
  · have := (taken1 h0 hr).2.2
    omega
  cases hf : fitsM x.log m.index m.last with
  | false => exact .inr (.inl ⟨h0, hr, rfl, (taken2 h0 hr hf).1, (taken2 h0 hr hf).2.1⟩)
  | true =>
    by_cases h3 : 40 < (takenL x m).length
    · have := (taken3 h0 hr hf h3).2.2
      omega
    by_cases h4 : (commonN x.log (takenL x m) : Int) < x.commit
    · have := (taken4 h0 hr hf h3 h4).2.2
      omega
    · have := taken5 h0 hr hf h3 h4
      exact .inr (.inr ⟨⟨h0, hr, hf, by omega, by omega⟩, this.1, this.2.1⟩)
theorem fits_last {a : List Entry} {n : Nat} {last : Int} (ha : a.length ≤ 2097152) (h : fitsM a n last = true) : n ≤ a.length ∧ (0 < n → tmE a (n - 1) = last) ∧ (n = 0 → last = 0) := by
  unfold fitsM at h
  rcases Nat.eq_zero_or_pos n with rfl | h0
  · rw [if_pos (by omega)] at h
    simp only [decide_eq_true_eq] at h
    exact ⟨by omega, by omega, fun _ => h⟩
  rw [if_neg (by omega)] at h
  simp only [Bool.and_eq_true, decide_eq_true_eq] at h
  obtain ⟨h1, h2⟩ := h
  unfold inR at h1
  simp only [Bool.and_eq_true, decide_eq_true_eq] at h1
  have e : (IntKind.i64.wrap ((n : Int) - 1)).toNat = n - 1 := by
    rw [wrap_small (by omega) (by omega)]; omega
  rw [e] at h2
  exact ⟨by omega, fun _ => h2, fun h => by omega⟩
theorem nf_takenOk {x : Node} {m : Mail} {p i : Int} (h : NF x) (M : MF p i m) (ht : m.term ≤ x.term) (K : TakenOk x m) : NF (takenOk x m) ∧ takenEnd m ≤ 40 := by
  have hl := h.l.n
  obtain ⟨n, hn⟩ : ∃ n : Nat, m.index = n := ⟨m.index.toNat, by have := M.x; omega⟩
  have hf := K.f
  rw [hn] at hf
  obtain ⟨f1, f2, _⟩ := fits_last (by omega) hf
  have hL : takenL x m = take7 x.log m.entries n := by unfold takenL; rw [hn]; rfl
  have hk := K.n
  rw [hL] at hk
  have hlast : 0 < m.entries.length → 0 < n → tmE x.log (n - 1) ≤ tmE m.entries 0 := fun h0 h1 => by
    rw [f2 h1]
    exact (M.g.1 h0).2.2
  obtain ⟨t1, t2⟩ := lf_take7 h.l M.l f1 hlast hk
  have hge := take7_ge (more := m.entries) f1
  have hc := h.c
  have hcn : takenC x m = 0 := by
    have hc2 := K.c
    unfold takenC
    rw [if_neg K.t, if_neg K.r, if_neg (by rw [K.f]; simp), if_neg (by have := K.n; omega), if_neg (by omega)]
  have hcom : (takenOk x m).commit ≤ (takenOk x m).log.length := by
    have := taken_commit (y := x) (m := m) (by omega) hc.2 hcn
    rcases taken_cases hcn with ⟨g, _⟩ | ⟨_, _, g, _⟩ | ⟨_, e, _⟩
    · exact absurd g K.t
    · rw [K.f] at g; cases g
    · rwa [e] at this
  have hend : takenEnd m ≤ 40 := by unfold takenEnd; omega
  refine ⟨⟨h.p, h.i, h.t, h.v, by show 0 ≤ (0 : Int) ∧ (0 : Int) ≤ 2; omega, by show LF (takenL x m); rw [hL]; exact t1, ?_, ⟨?_, hcom⟩, ⟨by intro i _ hi; simp [takenOk, followed] at hi, by simp [takenOk, followed], by simp [takenOk, followed]⟩, ?_, ?_, fun e => absurd rfl e⟩, hend⟩
  · show lstT (takenL x m) ≤ x.term
    rw [hL]
    refine lst_le (by have := h.t; omega) (t2 x.term (fun i hi => h.l.le h.lt hi) fun i hi => ?_)
    have h1 : lstT m.entries ≤ m.term := (M.g.1 (by omega)).2.1
    have := M.l.le h1 hi
    omega
  · show 0 ≤ max x.commit _
    omega
  · unfold due
    simp [takenOk, followed]
  · simp [takenOk, followed]
theorem hear_nf {x : Node} {m : Mail} (h : NF x) (M : MF x.peers x.id m) (hc : (hear x m).code = 0) : NF (hear x m).node ∧ (hear x m).node.id = x.id ∧ (hear x m).node.peers = x.peers ∧ ∀ r ∈ (hear x m).send, MF x.peers m.from_ r := by
  have hy := nf_newer (m := m) h M.t
  obtain ⟨e1, e2, e3, e4, e5, e6⟩ := newer_same (x := x) (m := m)
  have hf := M.f
  have hp : 0 ≤ m.from_ ∧ m.from_ < (newer x m).peers := by omega
  have hne : m.from_ ≠ (newer x m).id := by omega
  have ht : 1 ≤ (newer x m).term := by have := M.t; omega
  unfold hear at hc ⊢
  generalize newer x m = y at *
  rw [← e1, ← e2]
  split at hc
  · rename_i k1
    rw [if_pos k1]
    refine ⟨nf_voted hy hp hne, by show (votedN y m).id = _; unfold votedN; split <;> rfl, by show (votedN y m).peers = _; unfold votedN; split <;> rfl, fun r hr => ?_⟩
    rw [List.mem_singleton] at hr
    subst hr
    exact mf_grant hy ht hne
  rename_i k1
  rw [if_neg k1]
  split at hc
  · rename_i k2
    rw [if_pos k2]
    refine ⟨nf_granted hy hp, ?_, ?_, by simp⟩
    · show (grantedN y m).id = _
      unfold grantedN
      split
      · split <;> rfl
      · rfl
    · show (grantedN y m).peers = _
      unfold grantedN
      split
      · split <;> rfl
      · rfl
  rename_i k2
  rw [if_neg k2]
  split at hc
  · rename_i k3
    rw [if_pos k3]
    split at hc
    · rename_i k4; exact absurd hc k4
    rename_i k4
    rw [if_neg k4]
    have k4 : takenC y m = 0 := by simpa using k4
    show NF (takenN y m) ∧ (takenN y m).id = y.id ∧ (takenN y m).peers = y.peers ∧ ∀ r ∈ [takenM y m], MF y.peers m.from_ r
    rcases taken_cases k4 with ⟨_, a, b⟩ | ⟨c0, c1, c2, a, b⟩ | ⟨K, a, b⟩
    · rw [a, b]
      refine ⟨hy, rfl, rfl, fun r hr => ?_⟩
      rw [List.mem_singleton] at hr
      subst hr
      exact mf_base hy ht hne false (k := 0) (by omega)
    · rw [a, b]
      refine ⟨nf_follow hy, rfl, rfl, fun r hr => ?_⟩
      rw [List.mem_singleton] at hr
      subst hr
      have hx := M.x
      have h1 : m.index ≠ 0 := fun e => by
        have := M.g.2.2.2 e
        unfold fitsM at c2
        rw [if_pos e] at c2
        simp [this] at c2
      exact mf_base hy ht hne false (by omega)
    · rw [a, b]
      obtain ⟨n1, n2⟩ := nf_takenOk hy M e5 K
      refine ⟨n1, rfl, rfl, fun r hr => ?_⟩
      rw [List.mem_singleton] at hr
      subst hr
      have hx := M.x
      exact mf_base hy ht hne true ⟨by unfold takenEnd; omega, n2⟩
  · rename_i k3
    rw [if_neg k3]
    refine ⟨nf_told hy hp M.x.1, ?_, ?_, by simp⟩
    · show (toldN y m).id = _
      unfold toldN
      split
      · rfl
      · split <;> rfl
    · show (toldN y m).peers = _
      unfold toldN
      split
      · rfl
      · split <;> rfl
structure CF (x : Cluster) : Prop where
  n : 1 ≤ x.nodes.length ∧ x.nodes.length ≤ 5
  m : x.mails.length ≤ 80
  w : x.wins.length ≤ 400
  s : x.seals.length ≤ 40
  nd : ∀ i, i < x.nodes.length → NF (x.nodes.getD i zNode) ∧ (x.nodes.getD i zNode).id = i ∧ (x.nodes.getD i zNode).peers = x.nodes.length
  ml : ∀ m ∈ x.mails, (0 ≤ m.to_ ∧ m.to_ < x.nodes.length) ∧ MF x.nodes.length m.to_ m
  wi : ∀ w ∈ x.wins, (1 ≤ w.term ∧ w.term ≤ 100000) ∧ 0 ≤ w.node ∧ w.node < x.nodes.length
  se : ∀ s ∈ x.seals, (1 ≤ s.term ∧ s.term ≤ 100000) ∧ entryFault s.entry = 0
theorem cf_iff {x : Cluster} : clusterFault x = 0 ↔ CF x := by
  constructor
  · intro h
    have h' := h
    unfold clusterFault at h
    split at h
    · cases h
    rename_i g1
    split at h
    · rename_i g; exact absurd h g
    rename_i g2
    split at h
    · rename_i g; exact absurd h g
    rename_i g3
    split at h
    · cases h
    rename_i g4
    split at h
    · rename_i g; exact absurd h g
    rename_i g5
    have hn : ∀ i, i < x.nodes.length → NF (x.nodes.getD i zNode) ∧ (x.nodes.getD i zNode).id = i ∧ (x.nodes.getD i zNode).peers = x.nodes.length := fun i hi => by
      obtain ⟨a, b, c⟩ := nodes_ok (by simpa using g2) hi
      exact ⟨nf_iff.1 a, b, c⟩
    refine ⟨by omega, by omega, by omega, by omega, hn, (all_getD zMail).1 fun i hi => ?_, (all_getD zWon).1 fun i hi => ?_, (all_getD zSeal).1 fun i hi => ?_⟩
    · obtain ⟨j, j1, j2, j3⟩ := cl_mail h' hi
      obtain ⟨b1, b2, b3⟩ := hn j j2
      have := (mf_iff b1.p).1 j3
      rw [b2, b3] at this
      rw [j1]
      exact ⟨by omega, this⟩
    · have := scan_zero.1 (show scan (winAt x) x.wins.length 0 = 0 by simpa using g5) i hi
      unfold winAt at this
      split at this
      · cases this
      · rename_i g
        simp only [not_or, Bool.not_eq_false] at g
        have g1 := g.1
        have g2 := place_iff.1 g.2
        unfold inR at g1
        simp only [Bool.and_eq_true, decide_eq_true_eq] at g1
        exact ⟨g1, g2⟩
    · have := scan_zero.1 h i hi
      unfold sealAt at this
      split at this
      · cases this
      · rename_i g
        simp only [Bool.not_eq_false] at g
        unfold inR at g
        simp only [Bool.and_eq_true, decide_eq_true_eq] at g
        exact ⟨g, this⟩
  · intro h
    have h1 : scan (nodeAt x) x.nodes.length 0 = 0 := scan_zero.2 fun i hi => by
      obtain ⟨a, b, c⟩ := h.nd i hi
      rw [nodeAt_eq, if_neg (by rw [nf_iff.2 a]; simp), if_neg (by omega)]
    have h2 : scan (mailAt x) x.mails.length 0 = 0 := scan_zero.2 fun i hi => by
      obtain ⟨a, b⟩ := h.ml _ (getD_mem zMail hi)
      have hp : place x (x.mails.getD i zMail).to_ = true := place_iff.2 a
      rw [mailAt_eq, if_neg (by rw [hp]; simp)]
      obtain ⟨c1, c2, c3⟩ := h.nd (x.mails.getD i zMail).to_.toNat (by omega)
      refine (mf_iff c1.p).2 ?_
      rw [c2, c3, Int.toNat_of_nonneg a.1]
      exact b
    have h3 : scan (winAt x) x.wins.length 0 = 0 := scan_zero.2 fun i hi => by
      obtain ⟨a, b⟩ := h.wi _ (getD_mem zWon hi)
      rw [winAt_eq, if_neg]
      rintro (g | g)
      · have : inR (x.wins.getD i zWon).term 1 100000 = true := by unfold inR; simp only [Bool.and_eq_true, decide_eq_true_eq]; exact a
        rw [this] at g; cases g
      · rw [place_iff.2 b] at g; cases g
    have h4 : scan (sealAt x) x.seals.length 0 = 0 := scan_zero.2 fun i hi => by
      obtain ⟨a, b⟩ := h.se _ (getD_mem zSeal hi)
      have hr : inR (x.seals.getD i zSeal).term 1 100000 = true := by unfold inR; simp only [Bool.and_eq_true, decide_eq_true_eq]; exact a
      rw [sealAt_eq, if_neg (by rw [hr]; simp), b]
    have := h.n; have := h.m; have := h.w; have := h.s
    unfold clusterFault
    rw [if_neg (by omega), if_neg (by rw [h1]; simp), if_neg (by rw [h2]; simp), if_neg (by omega), if_neg (by rw [h3]; simp), h4]
theorem set_getD {α : Type} {l : List α} {i j : Nat} (hi : i < l.length) (r z : α) : (l.set i r).getD j z = if j = i then r else l.getD j z := by
  split
  · rename_i e; subst e; exact getD_set_self hi r z
  · rename_i e
    rw [List.getD_eq_getElem?_getD, List.getElem?_set_ne (fun h => e h.symm), ← List.getD_eq_getElem?_getD]
theorem sealsTo_mem {s : List Seal} {r : Node} {k : Nat} {a : Seal} (h : a ∈ sealsTo s r k) : a ∈ s ∨ (a.term = r.term ∧ a.entry ∈ r.log) := by
  unfold sealsTo at h
  rcases List.mem_append.1 h with h | h
  · exact .inl h
  · obtain ⟨e, he, rfl⟩ := List.mem_map.1 h
    exact .inr ⟨rfl, List.mem_of_mem_take (List.mem_of_mem_drop he)⟩
theorem cf_do {x : Cluster} (C : CF x) {i : Nat} (hi : i < x.nodes.length) {r : NodeResult} (hd : doOk x i r = true) (hn : NF r.node ∧ r.node.id = i ∧ r.node.peers = x.nodes.length) (hs : ∀ m ∈ r.send, (0 ≤ m.to_ ∧ m.to_ < x.nodes.length) ∧ MF x.nodes.length m.to_ m) : CF (doC x i r) := by
  unfold doOk at hd
  simp only [Bool.and_eq_true, decide_eq_true_eq, Bool.or_eq_true, Bool.not_eq_true'] at hd
  obtain ⟨⟨d1, d2⟩, d3⟩ := hd
  have hN : (doC x i r).nodes.length = x.nodes.length := by simp [doC]
  refine ⟨by rw [hN]; exact C.n, by simp [doC]; omega, ?_, ?_, fun j hj => ?_, fun m hm => ?_, fun w hw => ?_, fun s hs' => ?_⟩
  · show (doWins x i r.node).length ≤ 400
    unfold doWins
    have := C.w
    split
    · rename_i g
      rw [g] at d3
      simp at d3
      simp
      omega
    · exact this
  · show (sealsTo x.seals r.node r.node.commit.toNat).length ≤ 40
    have h1 := C.s
    have h2 := hn.1.c
    have h3 := hn.1.l.n
    unfold sealsTo
    simp
    omega
  · rw [hN] at hj
    show NF ((x.nodes.set i r.node).getD j zNode) ∧ ((x.nodes.set i r.node).getD j zNode).id = j ∧ ((x.nodes.set i r.node).getD j zNode).peers = (x.nodes.set i r.node).length
    rw [set_getD hi, List.length_set]
    split
    · rename_i e; subst e; exact hn
    · exact C.nd j hj
  · rw [hN]
    rcases List.mem_append.1 hm with hm | hm
    · exact C.ml m hm
    · exact hs m hm
  · rw [hN]
    have hw : w ∈ doWins x i r.node := hw
    unfold doWins at hw
    split at hw
    · rename_i g
      rcases List.mem_append.1 hw with hw | hw
      · exact C.wi w hw
      · rw [List.mem_singleton] at hw
        subst hw
        unfold wonBy at g
        simp only [Bool.and_eq_true, decide_eq_true_eq] at g
        have h1 := hn.1.rr (by omega)
        have h2 := hn.1.t
        exact ⟨⟨by show 1 ≤ r.node.term; omega, h2.2⟩, by show 0 ≤ (i : Int); omega, by show (i : Int) < _; omega⟩
    · exact C.wi w hw
  · rcases sealsTo_mem hs' with h | ⟨h1, h2⟩
    · exact C.se s h
    · obtain ⟨q, hq, e⟩ := List.getElem_of_mem h2
      have h3 := hn.1.l.e _ h2
      have h4 := hn.1.l.le hn.1.lt hq
      have h5 := hn.1.l.tm hq
      have h6 := hn.1.t
      exact ⟨by omega, h3⟩
theorem cf_sub {x : Cluster} (C : CF x) {ms : List Mail} (h : ∀ m ∈ ms, m ∈ x.mails) (hl : ms.length ≤ 80) : CF { x with mails := ms } :=
  ⟨C.n, hl, C.w, C.s, C.nd, fun m hm => C.ml m (h m hm), C.wi, C.se⟩
structure CI (g : RGh) (x : Cluster) : Prop where
  f : CF x
  gi : GI x.nodes.length g
  ni : ∀ v, v < x.nodes.length → NI x.nodes.length g v (x.nodes.getD v zNode)
  mi : ∀ m ∈ x.mails, MI x.nodes.length g m
  wi : ∀ w ∈ x.wins, ∃ n : Nat, w.node = n ∧ g.ld w.term = some n
  si : ∀ k, k < x.seals.length → ∃ t j, t ≤ (x.seals.getD k zSeal).term ∧ Cm x.nodes.length g j t ∧ k < j ∧ (x.seals.getD k zSeal).entry = (g.ll t).getD k zEntry
  sc : ∀ v, v < x.nodes.length → (x.nodes.getD v zNode).commit ≤ x.seals.length
theorem take_getD {α : Type} (z : α) {a b : List α} {n k : Nat} (h : a.take n = b.take n) (hk : k < n) : a.getD k z = b.getD k z := by
  have := congrArg (fun l => l.getD k z) h
  simpa only [List.getD_eq_getElem?_getD, List.getElem?_take, if_pos hk] using this
theorem sealsTo_getD {s : List Seal} {r : Node} {k q : Nat} (hk : k ≤ r.log.length) (h1 : s.length ≤ q) (h2 : q < k) : (sealsTo s r k).getD q zSeal = ⟨r.term, r.log.getD q zEntry⟩ := by
  unfold sealsTo
  rw [List.getD_eq_getElem?_getD, List.getElem?_append_right h1, List.getElem?_map, List.getElem?_drop, List.getElem?_take, if_pos (by omega), show s.length + (q - s.length) = q by omega, List.getElem?_eq_getElem (by omega), List.getD_eq_getElem?_getD, List.getElem?_eq_getElem (by omega)]
  rfl
theorem sealsTo_old {s : List Seal} {r : Node} {k q : Nat} (h : q < s.length) : (sealsTo s r k).getD q zSeal = s.getD q zSeal := by
  unfold sealsTo
  rw [List.getD_eq_getElem?_getD, List.getElem?_append_left h, ← List.getD_eq_getElem?_getD]
theorem sealsTo_ge (s : List Seal) (r : Node) (k : Nat) : s.length ≤ (sealsTo s r k).length ∧ (k ≤ r.log.length → (sealsTo s r k).length = max s.length k) := by
  unfold sealsTo
  simp
  omega
theorem ci_do {g : RGh} {x : Cluster} (C : CI g x) {i : Nat} (hi : i < x.nodes.length) {r : NodeResult} (hd : doOk x i r = true) (hn : NF r.node ∧ r.node.id = i ∧ r.node.peers = x.nodes.length) (hs : ∀ m ∈ r.send, (0 ≤ m.to_ ∧ m.to_ < x.nodes.length) ∧ MF x.nodes.length m.to_ m) {g' : RGh} (E : RExt g g') (G' : GI x.nodes.length g') (hN : NI x.nodes.length g' i r.node) (ho : ∀ u y, u ≠ i → NI x.nodes.length g u y → NI x.nodes.length g' u y) (hm : ∀ m ∈ r.send, MI x.nodes.length g' m) : CI g' (doC x i r) := by
  have hL : (doC x i r).nodes.length = x.nodes.length := by simp [doC]
  have hcl := hn.1.c
  have hsl := (sealsTo_ge x.seals r.node r.node.commit.toNat).2 (by omega)
  refine ⟨cf_do C.f hi hd hn hs, by rw [hL]; exact G', fun v hv => ?_, fun m hm' => ?_, fun w hw => ?_, fun k hk => ?_, fun v hv => ?_⟩
  · rw [hL] at hv ⊢
    show NI _ g' v ((x.nodes.set i r.node).getD v zNode)
    rw [set_getD hi]
    split
    · rename_i e; subst e; exact hN
    · rename_i e; exact ho v _ e (C.ni v hv)
  · rw [hL]
    rcases List.mem_append.1 hm' with h | h
    · exact (C.mi m h).ext E
    · exact hm m h
  · have hw : w ∈ doWins x i r.node := hw
    have old : w ∈ x.wins → ∃ n : Nat, w.node = n ∧ g'.ld w.term = some n := fun h => by
      obtain ⟨n, h1, h2⟩ := C.wi w h
      exact ⟨n, h1, (E.ld _ _ h2).1⟩
    unfold doWins at hw
    split at hw
    · rename_i hb
      rcases List.mem_append.1 hw with h | h
      · exact old h
      · rw [List.mem_singleton] at h
        subst h
        unfold wonBy at hb
        simp only [Bool.and_eq_true, decide_eq_true_eq] at hb
        exact ⟨i, rfl, (hN.r2 hb.1).1⟩
    · exact old hw
  · rw [hL]
    change k < (sealsTo x.seals r.node r.node.commit.toNat).length at hk
    show ∃ t j, t ≤ ((sealsTo x.seals r.node r.node.commit.toNat).getD k zSeal).term ∧ _ ∧ _ ∧ ((sealsTo x.seals r.node r.node.commit.toNat).getD k zSeal).entry = _
    rcases Nat.lt_or_ge k x.seals.length with h | h
    · rw [sealsTo_old h]
      obtain ⟨t, j, h1, h2, h3, h4⟩ := C.si k h
      refine ⟨t, j, h1, h2.ext E, h3, ?_⟩
      rw [h4]
      exact pre_getD zEntry (E.ne h2.1).2 (by have := h2.2.2.1; omega)
    · rw [sealsTo_getD (by omega) h (by omega)]
      rcases hN.cm with h0 | ⟨t, j, h1, h2, h3, h4⟩
      · omega
      · exact ⟨t, j, h1, h2, by omega, take_getD zEntry h4 (by omega)⟩
  · rw [hL] at hv
    show ((x.nodes.set i r.node).getD v zNode).commit ≤ ((sealsTo x.seals r.node r.node.commit.toNat).length : Int)
    rw [set_getD hi]
    split
    · omega
    · have := C.sc v hv
      omega
theorem ci_sub {g : RGh} {x : Cluster} (C : CI g x) {ms : List Mail} (h : ∀ m ∈ ms, m ∈ x.mails) (hl : ms.length ≤ 80) : CI g { x with mails := ms } :=
  ⟨cf_sub C.f h hl, C.gi, C.ni, fun m hm => C.mi m (h m hm), C.wi, C.si, C.sc⟩
theorem bad_code {c : Int} : (bad c).code = c := rfl
theorem doR_ok {x : Cluster} {i : Nat} {r : NodeResult} (h : (doR x i r).code = 0) : doOk x i r = true ∧ doR x i r = ⟨0, doC x i r⟩ ∧ r.code = 0 := by
  unfold doR at h ⊢
  split at h
  · rename_i hd
    refine ⟨hd, by rw [if_pos hd], ?_⟩
    unfold doOk at hd
    simp only [Bool.and_eq_true, decide_eq_true_eq] at hd
    exact hd.1.1
  · rw [bad_code] at h
    split at h
    · rename_i g; exact absurd h g
    · cases h
theorem atNode_ok {x : Cluster} {p : Int} {r : NodeResult} (h : (atNode x p r).code = 0) : ∃ i : Nat, p = i ∧ i < x.nodes.length ∧ doOk x i r = true ∧ atNode x p r = ⟨0, doC x i r⟩ ∧ r.code = 0 := by
  unfold atNode at h ⊢
  split at h
  · rename_i g; rw [bad_code] at h; exact absurd h g
  rename_i g
  rw [if_neg g]
  obtain ⟨_, n, rfl, hn⟩ := guardN_iff (x := x) (p := p) (by omega)
  rw [Int.toNat_natCast] at h ⊢
  obtain ⟨a, b, c⟩ := doR_ok h
  exact ⟨n, rfl, hn, a, b, c⟩
theorem othersTo_mem' {f : Nat → Mail} {id : Int} {n : Nat} {m : Mail} (h : m ∈ othersTo f id n) : ∃ i : Nat, i < n ∧ (i : Int) ≠ id ∧ m = f i := by
  unfold othersTo at h
  simp at h
  obtain ⟨i, ⟨h1, h2⟩, rfl⟩ := h
  exact ⟨i, h1, h2, rfl⟩
theorem timeout_nf {x : Node} (h : NF x) (hc : (timeoutNode x).code = 0) : (timeoutNode x).node = (if quor x 1 then leadOf (asking x) else asking x) ∧ (timeoutNode x).send = votesTo x x.peers.toNat ∧ NF (timeoutNode x).node ∧ (timeoutNode x).node.id = x.id ∧ (timeoutNode x).node.peers = x.peers ∧ x.term ≠ 100000 ∧ x.role ≠ 2 := by
  unfold timeoutNode at hc ⊢
  rw [if_neg (by rw [nf_iff.2 h]; simp)] at hc ⊢
  split at hc
  · cases hc
  rename_i g1
  rw [if_neg g1]
  split at hc
  · cases hc
  rename_i g2
  rw [if_neg g2]
  have hA := nf_asking h g2 g1
  refine ⟨rfl, rfl, ?_, ?_, ?_, g2, g1⟩
  · show NF (if quor x 1 then leadOf (asking x) else asking x)
    split
    · exact nf_lead hA rfl
    · exact hA
  · show (if quor x 1 then leadOf (asking x) else asking x).id = x.id
    split <;> rfl
  · show (if quor x 1 then leadOf (asking x) else asking x).peers = x.peers
    split <;> rfl
theorem votes_mf {x : Node} (h : NF x) (ht : x.term ≠ 100000) {m : Mail} (hm : m ∈ votesTo x x.peers.toNat) : (0 ≤ m.to_ ∧ m.to_ < x.peers) ∧ MF x.peers m.to_ m := by
  obtain ⟨i, h1, h2, rfl⟩ := othersTo_mem' hm
  exact ⟨by show 0 ≤ (i : Int) ∧ (i : Int) < _; omega, mf_vote h ht h2⟩
theorem ci_timeout {g : RGh} {x : Cluster} (C : CI g x) {p : Int} (h : (atNode x p (timeoutNode (x.nodes.getD p.toNat zNode))).code = 0) : ∃ g', RExt g g' ∧ CI g' (atNode x p (timeoutNode (x.nodes.getD p.toNat zNode))).cluster := by
  obtain ⟨i, rfl, hi, hd, he, hc⟩ := atNode_ok h
  rw [he]
  rw [Int.toNat_natCast] at *
  obtain ⟨n1, n2, n3⟩ := C.f.nd i hi
  obtain ⟨e1, e2, e3, e4, e5, e6, e7⟩ := timeout_nf n1 hc
  obtain ⟨g', E, G', hN, ho, v1, v2, v3⟩ := asking_gn C.gi (C.ni i hi) hi n1.c.1 n1.c.2 n1.t.1
  refine ⟨g', E, ci_do C hi hd ⟨e3, by rw [e4]; exact n2, by rw [e5]; exact n3⟩ (fun m hm => ?_) E G' (by rw [e1]; exact hN) ho (fun m hm => ?_)⟩
  · rw [e2] at hm
    have := votes_mf n1 e6 hm
    rw [n3] at this
    exact this
  · rw [e2] at hm
    obtain ⟨j, h1, h2, rfl⟩ := othersTo_mem' hm
    refine ⟨fun _ => ⟨i, n2, v1, ?_, ?_⟩, fun e => ?_, fun e => ?_, fun e => ?_⟩
    · show ((x.nodes.getD i zNode).log.length : Int) = ((g'.vl i ((x.nodes.getD i zNode).term + 1)).length : Int)
      rw [v2]
    · show lstT (x.nodes.getD i zNode).log = lstT (g'.vl i ((x.nodes.getD i zNode).term + 1))
      rw [v2]
    · have : (1 : Int) = 2 := e
      omega
    · have : (1 : Int) = 3 := e
      omega
    · have : (1 : Int) = 4 := e
      omega
theorem spread_nf {x : Node} (h : NF x) (hc : (spreadNode x).code = 0) : (spreadNode x).node = x ∧ (spreadNode x).send = spreads x x.peers.toNat ∧ x.role = 2 := by
  unfold spreadNode at hc ⊢
  split at hc
  · rename_i g; exact absurd hc g
  rename_i g
  rw [if_neg g]
  exact ⟨rfl, rfl, (leadF_ok (x := x) (by omega)).2⟩
theorem ci_spread {g : RGh} {x : Cluster} (C : CI g x) {p : Int} (h : (atNode x p (spreadNode (x.nodes.getD p.toNat zNode))).code = 0) : ∃ g', RExt g g' ∧ CI g' (atNode x p (spreadNode (x.nodes.getD p.toNat zNode))).cluster := by
  obtain ⟨i, rfl, hi, hd, he, hc⟩ := atNode_ok h
  rw [he]
  rw [Int.toNat_natCast] at *
  obtain ⟨n1, n2, n3⟩ := C.f.nd i hi
  obtain ⟨e1, e2, e3⟩ := spread_nf n1 hc
  have hN := C.ni i hi
  have ht := n1.rr (by omega)
  have ht2 := n1.t
  obtain ⟨r1, r2, _⟩ := hN.r2 e3
  have hk : ∀ j : Nat, (j : Int) < (x.nodes.getD i zNode).peers → nextK (x.nodes.getD i zNode) j ≤ (x.nodes.getD i zNode).log.length := fun j hj => (next_ok (nf_iff.2 n1) e3 hj).2.2.2.1
  refine ⟨g, RExt.refl g, ci_do C hi hd (by rw [e1]; exact ⟨n1, n2, n3⟩) (fun m hm => ?_) (RExt.refl g) C.gi (by rw [e1]; exact hN) (fun _ _ _ h => h) (fun m hm => ?_)⟩
  · rw [e2] at hm
    obtain ⟨j, h1, h2, rfl⟩ := othersTo_mem' hm
    refine ⟨by show 0 ≤ (j : Int) ∧ (j : Int) < _; omega, ?_⟩
    have := mf_spread n1 (by omega) h2 (hk j (by omega))
    rw [n3] at this
    exact this
  · rw [e2] at hm
    obtain ⟨j, h1, h2, rfl⟩ := othersTo_mem' hm
    have hkj := hk j (by omega)
    refine ⟨fun e => ?_, fun e => ?_, fun _ => ⟨i, nextK (x.nodes.getD i zNode) j, n2, r1, rfl, ?_, ?_, ?_, ?_⟩, fun e => ?_⟩
    · have : (3 : Int) = 1 := e
      omega
    · have : (3 : Int) = 2 := e
      omega
    · show nextK (x.nodes.getD i zNode) j ≤ (g.ll (x.nodes.getD i zNode).term).length
      rw [← r2]; exact hkj
    · show (g.ll (x.nodes.getD i zNode).term).take (nextK (x.nodes.getD i zNode) j) ++ ((x.nodes.getD i zNode).log.take (min (x.nodes.getD i zNode).log.length (nextK (x.nodes.getD i zNode) j + 4))).drop (nextK (x.nodes.getD i zNode) j) <+: g.ll (x.nodes.getD i zNode).term
      rw [← r2]
      generalize nextK (x.nodes.getD i zNode) j = k at hkj ⊢
      generalize (x.nodes.getD i zNode).log = L at hkj ⊢
      have : L.take k = (L.take (min L.length (k + 4))).take k := by rw [List.take_take]; congr 1; omega
      rw [this, List.take_append_drop]
      exact List.take_prefix ..
    · show lstT ((x.nodes.getD i zNode).log.take _) = lstT ((g.ll (x.nodes.getD i zNode).term).take _)
      rw [← r2]
    · show CmL _ g (g.ll (x.nodes.getD i zNode).term) (x.nodes.getD i zNode).commit (x.nodes.getD i zNode).term
      rw [← r2]
      exact hN.cm
    · have : (3 : Int) = 4 := e
      omega
theorem crash_nf {x : Node} (h : NF x) : (crashNode x).node = ⟨x.id, x.peers, x.term, x.voted, x.log, 0, 0, [], [], []⟩ ∧ (crashNode x).send = [] ∧ NF (crashNode x).node ∧ (crashNode x).node.id = x.id ∧ (crashNode x).node.peers = x.peers := by
  unfold crashNode
  rw [if_neg (by rw [nf_iff.2 h]; simp)]
  have ht := h.t
  exact ⟨rfl, rfl, nf_calm h rfl rfl rfl h.v rfl ⟨Int.le_refl _, h.c.1⟩ ⟨ht.1, ht.2, Int.le_refl _⟩ ⟨rfl, rfl, rfl⟩, rfl, rfl⟩
theorem ci_crash {g : RGh} {x : Cluster} (C : CI g x) {p : Int} (h : (atNode x p (crashNode (x.nodes.getD p.toNat zNode))).code = 0) : ∃ g', RExt g g' ∧ CI g' (atNode x p (crashNode (x.nodes.getD p.toNat zNode))).cluster := by
  obtain ⟨i, rfl, hi, hd, he, hc⟩ := atNode_ok h
  rw [he]
  rw [Int.toNat_natCast] at *
  obtain ⟨n1, n2, n3⟩ := C.f.nd i hi
  obtain ⟨e1, e2, e3, e4, e5⟩ := crash_nf n1
  refine ⟨g, RExt.refl g, ci_do C hi hd ⟨e3, by rw [e4]; exact n2, by rw [e5]; exact n3⟩ (fun m hm => by rw [e2] at hm; cases hm) (RExt.refl g) C.gi ?_ (fun _ _ _ h => h) (fun m hm => by rw [e2] at hm; cases hm)⟩
  rw [e1]
  exact (C.ni i hi).calm rfl rfl rfl rfl rfl rfl n1.c.1
theorem ask_nf {x : Node} {e : Entry} (h : NF x) (hc : (askNode x e).code = 0) : (askNode x e).node = agreed (asked x e) ∧ (askNode x e).send = [] ∧ NF (asked x e) ∧ x.role = 2 ∧ e.term = x.term := by
  unfold askNode at hc ⊢
  rw [if_neg (by rw [nf_iff.2 h]; simp)] at hc ⊢
  split at hc
  · cases hc
  rename_i g1
  rw [if_neg g1]
  split at hc
  · rename_i g; exact absurd hc g
  rename_i g2
  rw [if_neg g2]
  split at hc
  · cases hc
  rename_i g3
  rw [if_neg g3]
  split at hc
  · cases hc
  rename_i g4
  rw [if_neg g4]
  have hr : x.role = 2 := Classical.byContradiction g1
  have ht : e.term = x.term := Classical.byContradiction g3
  have hi := h.i
  have hlen : ((asked x e).log.length : Int) = x.log.length + 1 := by simp [asked]
  have hll := h.l.n
  have hcc := h.c
  refine ⟨rfl, rfl, ⟨h.p, h.i, h.t, h.v, h.r, ⟨by omega, fun y hy => ?_, mono_of fun i h0 hi => ?_⟩, ?_, ⟨h.c.1, by rw [hlen]; show x.commit ≤ _; omega⟩, h.vo, ?_, ⟨fun u hu => ?_, fun u hu => ?_⟩, h.rr⟩, hr, ht⟩
  · rcases List.mem_append.1 hy with hy | hy
    · exact h.l.e y hy
    · rw [List.mem_singleton] at hy
      subst hy
      omega
  · show tmE (x.log ++ [e]) (i - 1) ≤ tmE (x.log ++ [e]) i
    have hi : i < (x.log ++ [e]).length := hi
    rw [List.length_append, List.length_singleton] at hi
    rcases Nat.lt_or_ge i x.log.length with c | c
    · rw [tm_left c, tm_left (by omega)]
      exact h.l.m _ _ (by omega) c
    · obtain rfl : i = x.log.length := by omega
      rw [tm_end, tm_left (by omega), ht]
      exact h.l.le h.lt (by omega)
  · show lstT (x.log ++ [e]) ≤ x.term
    rw [lst_tm (by simp), List.length_append, List.length_singleton, Nat.add_sub_cancel, tm_end, ht]
    exact Int.le_refl _
  · have := h.n
    refine ⟨?_, ?_⟩
    · show ((x.next.set _ _).length : Int) = due x
      rw [List.length_set]; exact this.1
    · show ((x.match_.set _ _).length : Int) = due x
      rw [List.length_set]; exact this.2
  · rw [hlen]
    rcases List.mem_or_eq_of_mem_set hu with hu | rfl
    · have := h.nr.1 u hu; omega
    · omega
  · rw [hlen]
    rcases List.mem_or_eq_of_mem_set hu with hu | rfl
    · have := h.nr.2 u hu; omega
    · omega
theorem ci_ask {g : RGh} {x : Cluster} (C : CI g x) {p : Int} {e : Entry} (h : (atNode x p (askNode (x.nodes.getD p.toNat zNode) e)).code = 0) : ∃ g', RExt g g' ∧ CI g' (atNode x p (askNode (x.nodes.getD p.toNat zNode) e)).cluster := by
  obtain ⟨i, rfl, hi, hd, he, hc⟩ := atNode_ok h
  rw [he]
  rw [Int.toNat_natCast] at *
  obtain ⟨n1, n2, n3⟩ := C.f.nd i hi
  obtain ⟨e1, e2, e3, e4, e5⟩ := ask_nf n1 hc
  have hN := C.ni i hi
  obtain ⟨r1, r2, r3, r4⟩ := hN.r2 e4
  have hcc := n1.c
  have hA : NI x.nodes.length (apG g i (x.nodes.getD i zNode).term e) i (asked (x.nodes.getD i zNode) e) := by
    refine ap_ni C.gi hN e4 e5 rfl rfl rfl rfl rfl e4 rfl (by show (List.set _ _ _).length = _; rw [List.length_set]; exact r3) (fun n hn hne => ?_) ?_
    · show (List.set _ _ _).getD n zI_i64 = _
      rw [n2, Int.toNat_natCast, set_getD (by omega), if_neg hne]
    · show (List.set _ _ _).getD i zI_i64 ≤ _
      rw [n2, Int.toNat_natCast, set_getD (by omega), if_pos rfl]
      exact Int.le_refl _
  refine ⟨apG g i (x.nodes.getD i zNode).term e, ap_ext C.gi _ _ _, ci_do C hi hd (by rw [e1]; exact ⟨nf_agreed e3, n2, n3⟩) (fun m hm => by rw [e2] at hm; cases hm) (ap_ext C.gi _ _ _) (ap_gi C.gi hN r1 e5) ?_ (fun u y hu hy => ap_oth C.gi r1 hu hy) (fun m hm => by rw [e2] at hm; cases hm)⟩
  rw [e1]
  exact agreed_ni hA e4 e3.c.1 e3.c.2
theorem mailG_ok {x : Cluster} {p : Int} (h : mailGuard x p = 0) : ∃ n : Nat, p = n ∧ n < x.mails.length := (guard_iff h).2
theorem ci_without {g : RGh} {x : Cluster} (C : CI g x) (n : Nat) : CI g (without x n) := by
  refine ci_sub C (fun m hm => ?_) ?_
  · rcases List.mem_append.1 hm with h | h
    · exact List.mem_of_mem_take h
    · exact List.mem_of_mem_drop h
  · have := C.f.m
    simp only [List.length_append, List.length_take, List.length_drop]
    omega
theorem ci_drop {g : RGh} {x : Cluster} (C : CI g x) {p : Int} (h : (dropMail x p).code = 0) : CI g (dropMail x p).cluster := by
  unfold dropMail at h ⊢
  split at h
  · rename_i e; exact absurd h e
  rename_i e
  rw [if_neg e]
  exact ci_without C _
theorem ci_copy {g : RGh} {x : Cluster} (C : CI g x) {p : Int} (h : (copyMail x p).code = 0) : CI g (copyMail x p).cluster := by
  unfold copyMail at h ⊢
  split at h
  · rename_i e; exact absurd h e
  rename_i e
  rw [if_neg e]
  split at h
  · cases h
  rename_i e2
  rw [if_neg e2]
  obtain ⟨n, rfl, hn⟩ := mailG_ok (x := x) (p := p) (by omega)
  refine ci_sub C (fun m hm => ?_) (by simp; omega)
  rcases List.mem_append.1 hm with h | h
  · exact h
  · rw [List.mem_singleton] at h
    subst h
    rw [Int.toNat_natCast]
    exact getD_mem zMail hn
theorem MI.dull {N : Nat} {g : RGh} {m : Mail} (hk : m.kind = 2 ∨ m.kind = 4) (ho : m.ok = false) : MI N g m := by
  refine ⟨fun e => by omega, fun _ e => ?_, fun e => by omega, fun _ e => ?_⟩
  · rw [ho] at e; cases e
  · rw [ho] at e; cases e
theorem hear_ci {N : Nat} {g : RGh} (G : GI N g) {v : Nat} {x : Node} {m : Mail} (h : NI N g v x) (hv : v < N) (n : NF x) (M : MF x.peers x.id m) (K : MI N g m) (hc : (hear x m).code = 0) :
    ∃ g', RExt g g' ∧ GI N g' ∧ NI N g' v (hear x m).node ∧ (∀ u y, u ≠ v → NI N g u y → NI N g' u y) ∧ ∀ r ∈ (hear x m).send, MI N g' r := by
  have hy := nf_newer (m := m) n M.t
  obtain ⟨e1, e2, e3, e4, e5, e6⟩ := newer_same (x := x) (m := m)
  have hY : NI N g v (newer x m) := by
    unfold newer
    split
    · rename_i ht
      exact h.rise ht rfl rfl rfl rfl rfl rfl
    · exact h
  have hid := h.id
  have ht : 1 ≤ (newer x m).term := by have := M.t; omega
  have hto : m.to_ = (newer x m).id := by rw [e1]; exact M.o
  unfold hear at hc ⊢
  generalize newer x m = y at *
  have hyc := hy.c
  split at hc
  · rename_i k1
    rw [if_pos k1]
    obtain ⟨g', E, G', hN, ho, hu⟩ := voted_gn G hY hv (fun e => Classical.byContradiction fun hr => by have := hy.rr hr; have := hy.i; omega) k1 K
    refine ⟨g', E, G', hN, ho, fun r hr => ?_⟩
    rw [List.mem_singleton] at hr
    subst hr
    refine ⟨fun e => ?_, fun _ ok => ?_, fun e => ?_, fun e => ?_⟩
    · have : (2 : Int) = 1 := e
      omega
    · obtain ⟨w, w1, w2⟩ := hu ok
      exact ⟨v, w, by show y.id = v; omega, w1, hv, w2⟩
    · have : (2 : Int) = 3 := e
      omega
    · have : (2 : Int) = 4 := e
      omega
  rename_i k1
  rw [if_neg k1]
  split at hc
  · rename_i k2
    rw [if_pos k2]
    obtain ⟨g', E, G', hN, ho, _⟩ := granted_gn G hY hv (fun _ => ht) hy.vo.1 hyc.1 hyc.2 k2 hto K
    exact ⟨g', E, G', hN, ho, by simp⟩
  rename_i k2
  rw [if_neg k2]
  split at hc
  · rename_i k3
    rw [if_pos k3]
    split at hc
    · rename_i k4; exact absurd hc k4
    rename_i k4
    rw [if_neg k4]
    have k4 : takenC y m = 0 := by simpa using k4
    show ∃ g', RExt g g' ∧ GI N g' ∧ NI N g' v (takenN y m) ∧ (∀ u z, u ≠ v → NI N g u z → NI N g' u z) ∧ ∀ r ∈ [takenM y m], MI N g' r
    rcases taken_cases k4 with ⟨_, a, b⟩ | ⟨c0, c1, c2, a, b⟩ | ⟨T, a, b⟩
    · rw [a, b]
      refine ⟨g, RExt.refl g, G, hY, fun _ _ _ h => h, fun r hr => ?_⟩
      rw [List.mem_singleton] at hr
      subst hr
      exact MI.dull (.inr rfl) rfl
    · rw [a, b]
      refine ⟨g, RExt.refl g, G, hY.calm rfl rfl rfl rfl rfl rfl (Int.le_refl _), fun _ _ _ h => h, fun r hr => ?_⟩
      rw [List.mem_singleton] at hr
      subst hr
      exact MI.dull (.inr rfl) rfl
    · rw [a, b]
      obtain ⟨g', E, G', hN, ho, ha⟩ := take_gn G hY (by have := T.t; omega) k3 K T.f T.c (by have := hy.l.n; omega)
      refine ⟨g', E, G', hN, ho, fun r hr => ?_⟩
      rw [List.mem_singleton] at hr
      subst hr
      refine ⟨fun e => ?_, fun e => ?_, fun e => ?_, fun _ _ => ⟨v, by show y.id = v; omega, hv, ha⟩⟩
      · have : (4 : Int) = 1 := e
        omega
      · have : (4 : Int) = 2 := e
        omega
      · have : (4 : Int) = 3 := e
        omega
  · rename_i k3
    rw [if_neg k3]
    exact ⟨g, RExt.refl g, G, told_ni hY hyc.1 hyc.2 (by have := M.k; omega) M.f.1 K, fun _ _ _ h => h, by simp⟩
theorem deliver_ok {x : Cluster} (C : CF x) {p : Int} (h : (deliverMail x p).code = 0) : ∃ (n i : Nat), p = n ∧ n < x.mails.length ∧ (x.mails.getD n zMail).to_ = i ∧ i < x.nodes.length ∧ MF (x.nodes.getD i zNode).peers (x.nodes.getD i zNode).id (x.mails.getD n zMail) ∧
    doOk (without x n) i (hear (x.nodes.getD i zNode) (x.mails.getD n zMail)) = true ∧ (hear (x.nodes.getD i zNode) (x.mails.getD n zMail)).code = 0 ∧ deliverMail x p = ⟨0, doC (without x n) i (hear (x.nodes.getD i zNode) (x.mails.getD n zMail))⟩ := by
  unfold deliverMail at h ⊢
  split at h
  · rename_i e; exact absurd h e
  rename_i e
  rw [if_neg e]
  obtain ⟨n, rfl, hn⟩ := mailG_ok (x := x) (p := p) (by omega)
  rw [Int.toNat_natCast] at h ⊢
  obtain ⟨a, b⟩ := C.ml _ (getD_mem zMail hn)
  obtain ⟨c1, c2, c3⟩ := C.nd (x.mails.getD n zMail).to_.toNat (by omega)
  have hM : MF (x.nodes.getD (x.mails.getD n zMail).to_.toNat zNode).peers (x.nodes.getD (x.mails.getD n zMail).to_.toNat zNode).id (x.mails.getD n zMail) := by
    rw [c2, c3, Int.toNat_of_nonneg a.1]
    exact b
  rw [hearMail_ok (nf_iff.2 c1) ((mf_iff c1.p).2 hM)] at h ⊢
  obtain ⟨d1, d2, d3⟩ := doR_ok h
  exact ⟨n, (x.mails.getD n zMail).to_.toNat, rfl, hn, by omega, by omega, hM, d1, d3, d2⟩
theorem ci_deliver {g : RGh} {x : Cluster} (C : CI g x) {p : Int} (h : (deliverMail x p).code = 0) : ∃ g', RExt g g' ∧ CI g' (deliverMail x p).cluster := by
  obtain ⟨n, i, rfl, hn, hto, hi, hM, hd, hc, he⟩ := deliver_ok C.f h
  rw [he]
  obtain ⟨n1, n2, n3⟩ := C.f.nd i hi
  obtain ⟨q1, q2, q3, q4⟩ := hear_nf n1 hM hc
  obtain ⟨g', E, G', hN, ho, hm⟩ := hear_ci C.gi (C.ni i hi) hi n1 hM (C.mi _ (getD_mem zMail hn)) hc
  refine ⟨g', E, ci_do (ci_without C n) hi hd ⟨q1, by rw [q2]; exact n2, by rw [q3]; exact n3⟩ (fun m hm => ?_) E G' hN ho hm⟩
  have := q4 m hm
  rw [n3] at this
  have hf := hM.f
  have ho := this.o
  rw [n3] at hf
  rw [ho]
  exact ⟨⟨hf.1, hf.2.1⟩, this⟩
def newNode (i p : Int) : Node := ⟨i, p, 0, -1, [], 0, 0, [], [], []⟩
def newC (n : Nat) : Cluster := ⟨(List.range n).map fun (k : Nat) => newNode k n, [], [], []⟩
def noGh : RGh := ⟨fun _ => [], fun _ => none, fun _ => [], fun _ _ => none, fun _ _ => [], fun _ _ => 0⟩
theorem newC_at {n i : Nat} (h : i < n) : (newC n).nodes.getD i zNode = newNode i n := by
  unfold newC
  simp [List.getD_eq_getElem?_getD, h]
theorem ci_new {n : Nat} (h1 : 1 ≤ n) (h5 : n ≤ 5) : CI noGh (newC n) := by
  have hl : (newC n).nodes.length = n := by simp [newC]
  have hM : Mono [] := by intro i j _ h; simp at h
  refine ⟨⟨by omega, by simp [newC], by simp [newC], by simp [newC], fun i hi => ?_, by simp [newC], by simp [newC], by simp [newC]⟩, ⟨?_, ?_, ?_, ?_, ?_⟩, fun v hv => ?_, by simp [newC], by simp [newC], by simp [newC], fun v hv => ?_⟩
  · rw [hl] at hi ⊢
    rw [newC_at hi]
    refine ⟨⟨by show 1 ≤ (n : Int) ∧ (n : Int) ≤ 5; omega, by show 0 ≤ (i : Int) ∧ (i : Int) < n; omega, by show 0 ≤ (0 : Int) ∧ (0 : Int) ≤ 100000; omega, .inl rfl, by show 0 ≤ (0 : Int) ∧ (0 : Int) ≤ 2; omega, LF.nil, by show lstT [] ≤ 0; rw [lst_nil rfl]; omega, by show 0 ≤ (0 : Int) ∧ (0 : Int) ≤ _; simp, ⟨by intro i _ hi; simp [newNode] at hi, by simp [newNode], by simp [newNode]⟩, by simp [newNode, due], by simp [newNode], fun e => absurd rfl e⟩, rfl, rfl⟩
  · intro t w e; cases e
  · intro t w e; cases e
  · intro v t w e; cases e
  · intro v t; exact ⟨by simp [noGh], fun h => by simp [noGh] at h⟩
  · intro v t' e; exact absurd rfl e
  · rw [hl] at hv ⊢
    rw [newC_at hv]
    refine ⟨⟨rfl, rfl⟩, ⟨hM, fun i hi => by simp [newNode] at hi⟩, fun i hi => by simp [newNode] at hi, ⟨fun _ => rfl, fun w e => ?_, by show (-1 : Int) ≤ -1; omega⟩, fun t _ => ⟨rfl, rfl⟩, fun e => ?_, fun e => ?_, fun t k _ hk _ => ?_, .inl (by show (0 : Int) ≤ 0; omega)⟩
    · have : (-1 : Int) = w := e
      omega
    · have : (0 : Int) = 1 := e
      omega
    · have : (0 : Int) = 2 := e
      omega
    · have : k = 0 := by simpa [noGh] using hk
      subst this
      simp
  · rw [hl] at hv
    rw [newC_at hv]
    simp [newNode]
end Go.H
end
