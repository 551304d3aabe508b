/- What the functions that several laws reach compute, each by its code, against pure functions. Conditions: those that each theorem states. -/
import Derived.Test.YtpkdcjbkfkhgdaaGreatQH3
import Derived.Test.YtpkdcjbkfkhgdaaGreatProg
import Derived.KernelRfl
section
set_option linter.unusedSimpArgs false
namespace Go.H
open Go
def cpT : Dep → T → Prop
  | none, t => t.solid = true
  | some _, t => t.flat = true
def cpL (d : Dep) : List T → Prop
  | [] => True
  | t :: ts => cpT d t ∧ cpL d ts
theorem cpL_iff {d : Dep} : ∀ {r : List T}, cpL d r ↔ ∀ t ∈ r, cpT d t
  | [] => by simp [cpL]
  | t :: ts => by simp [cpL, cpL_iff (r := ts)]
theorem cpRows_cons (d : Dep) (r : List T) (rs : List (List T)) : cpRows d (r :: rs) = (cpL d r ∧ cpRows d rs) := by
  rw [eq_iff_iff, cpL_iff]
  cases d <;> simp [cpRows, cpT]
theorem cpRows_nil (d : Dep) : cpRows d [] = True := by
  cases d <;> simp [cpRows]
attribute [go_sem] cpRows_cons cpRows_nil cpL cpT T.solid T.flat
theorem cpRowsN_map {α : Type} (f : α → List T) (h : ∀ x, ∀ t ∈ f x, t.solid = true) (xs : List α) : cpRows none (xs.map f) = True := by
  rw [eq_iff_iff]
  unfold cpRows
  simp only [List.mem_map, iff_true]
  rintro r ⟨x, _, rfl⟩ t ht
  exact h x t ht
theorem getD_map_ {α : Type} (f : α → List T) (xs : List α) (i : Nat) (d : α) : (xs.map f).getD i (f d) = f (xs.getD i d) := by
  simp only [List.getD_eq_getElem?_getD, List.getElem?_map]
  cases xs[i]? <;> rfl
theorem noShR_map {α : Type} (f : α → List T) (h : ∀ x, T.noShL (f x)) (xs : List α) : T.noShR (xs.map f) = True := by
  rw [eq_iff_iff, T.noShR_iff]
  simp only [List.mem_map, forall_exists_index, and_imp, forall_apply_eq_imp_iff₂, h, implies_true]
theorem roRows_map {α : Type} (f g : α → List T) (h : ∀ x, (f x).map T.ro = g x) (xs : List α) : roRows (xs.map f) = xs.map g := by
  simp only [roRows, List.map_map]
  exact List.map_congr_left fun x _ => h x
theorem cpRows_map {α : Type} (f : α → List T) (h : ∀ x, ∀ t ∈ f x, t.flat = true) (d : Dep) (xs : List α) : cpRows d (xs.map f) = True := by
  rw [eq_iff_iff]
  unfold cpRows
  cases d
  · simp only [List.mem_map, iff_true]
    rintro r ⟨x, _, rfl⟩ t ht
    exact T.flat_solid (h x t ht)
  · simp only [List.mem_map, iff_true]
    rintro r ⟨x, _, rfl⟩ t ht
    exact h x t ht
def eI_i64 (n : Int) : List T := [.int .i64 n]
def zI_i64 : Int := 0
def dI_i64 : List T := eI_i64 zI_i64
theorem getD_I_i64 (xs : List Int) (i : Nat) : (xs.map eI_i64).getD i dI_i64 = eI_i64 (xs.getD i zI_i64) := getD_map_ ..
theorem shrR_I_i64 (xs : List Int) : T.shrR (xs.map eI_i64) = xs.map eI_i64 := T.shrR_map _ _ (fun _ => rfl) xs
theorem noShR_I_i64 (xs : List Int) : T.noShR (xs.map eI_i64) = True := noShR_map _ (fun _ => by simp [eI_i64, T.noShL, T.noSh]) xs
theorem roRows_I_i64 (xs : List Int) : roRows (xs.map eI_i64) = xs.map eI_i64 := roRows_map _ _ (fun _ => rfl) xs
theorem cpRows_I_i64 (d : Dep) (xs : List Int) : cpRows d (xs.map eI_i64) = True := cpRows_map _ (fun _ => by simp [eI_i64, T.flat]) d xs
attribute [go_sem] getD_I_i64 shrR_I_i64 noShR_I_i64 roRows_I_i64 cpRows_I_i64
theorem dropd_I_i64 : List.drop 1 dI_i64 = [] := rfl
theorem tm_I_i64 : tm dI_i64 = [.int .i64 0] := rfl
attribute [go_sem] dropd_I_i64 tm_I_i64
structure Cmd where
  kind : Int
  expect : Int
  name : Int
  addr : Int
  number : Int
  proto : Int
def eCmd (x : Cmd) : List T := [.int .i64 x.kind, .int .i64 x.expect, .int .i64 x.name, .int .i64 x.addr, .int .i64 x.number, .int .i64 x.proto]
def zCmd : Cmd := ⟨0, 0, 0, 0, 0, 0⟩
def dCmd : List T := eCmd zCmd
theorem getD_Cmd (xs : List Cmd) (i : Nat) : (xs.map eCmd).getD i dCmd = eCmd (xs.getD i zCmd) := getD_map_ ..
theorem shrR_Cmd (xs : List Cmd) : T.shrR (xs.map eCmd) = xs.map eCmd := T.shrR_map _ _ (fun _ => rfl) xs
theorem noShR_Cmd (xs : List Cmd) : T.noShR (xs.map eCmd) = True := noShR_map _ (fun _ => by simp [eCmd, T.noShL, T.noSh]) xs
theorem roRows_Cmd (xs : List Cmd) : roRows (xs.map eCmd) = xs.map eCmd := roRows_map _ _ (fun _ => rfl) xs
theorem cpRows_Cmd (d : Dep) (xs : List Cmd) : cpRows d (xs.map eCmd) = True := cpRows_map _ (fun _ => by simp [eCmd, T.flat]) d xs
attribute [go_sem] getD_Cmd shrR_Cmd noShR_Cmd roRows_Cmd cpRows_Cmd
theorem dropd_Cmd : List.drop 6 dCmd = [] := rfl
theorem tm_Cmd : tm dCmd = [.int .i64 0, .int .i64 0, .int .i64 0, .int .i64 0, .int .i64 0, .int .i64 0] := rfl
attribute [go_sem] dropd_Cmd tm_Cmd
structure Entry where
  term : Int
  client : Int
  seq : Int
  cmd : Cmd
def eEntry (x : Entry) : List T := [.int .i64 x.term, .int .i64 x.client, .int .i64 x.seq, .int .i64 x.cmd.kind, .int .i64 x.cmd.expect, .int .i64 x.cmd.name, .int .i64 x.cmd.addr, .int .i64 x.cmd.number, .int .i64 x.cmd.proto]
def zEntry : Entry := ⟨0, 0, 0, zCmd⟩
def dEntry : List T := eEntry zEntry
theorem getD_Entry (xs : List Entry) (i : Nat) : (xs.map eEntry).getD i dEntry = eEntry (xs.getD i zEntry) := getD_map_ ..
theorem shrR_Entry (xs : List Entry) : T.shrR (xs.map eEntry) = xs.map eEntry := T.shrR_map _ _ (fun _ => rfl) xs
theorem noShR_Entry (xs : List Entry) : T.noShR (xs.map eEntry) = True := noShR_map _ (fun _ => by simp [eEntry, T.noShL, T.noSh]) xs
theorem roRows_Entry (xs : List Entry) : roRows (xs.map eEntry) = xs.map eEntry := roRows_map _ _ (fun _ => rfl) xs
theorem cpRows_Entry (d : Dep) (xs : List Entry) : cpRows d (xs.map eEntry) = True := cpRows_map _ (fun _ => by simp [eEntry, T.flat]) d xs
attribute [go_sem] getD_Entry shrR_Entry noShR_Entry roRows_Entry cpRows_Entry
theorem dropd_Entry : List.drop 9 dEntry = [] := rfl
theorem tm_Entry : tm dEntry = [.int .i64 0, .int .i64 0, .int .i64 0, .int .i64 0, .int .i64 0, .int .i64 0, .int .i64 0, .int .i64 0, .int .i64 0] := rfl
attribute [go_sem] dropd_Entry tm_Entry
structure Node where
  id : Int
  peers : Int
  term : Int
  voted : Int
  log : List Entry
  role : Int
  commit : Int
  votes : List Int
  next : List Int
  match_ : List Int
def eNode (o : Bool) (x : Node) : List T := [.int .i64 x.id, .int .i64 x.peers, .int .i64 x.term, .int .i64 x.voted, .sl o 9 (x.log.map eEntry), .int .i64 x.role, .int .i64 x.commit, .sl o 1 (x.votes.map eI_i64), .sl o 1 (x.next.map eI_i64), .sl o 1 (x.match_.map eI_i64)]
def zNode : Node := ⟨0, 0, 0, 0, [], 0, 0, [], [], []⟩
def dNode (o : Bool) : List T := eNode o zNode
theorem getD_Node (o : Bool) (xs : List Node) (i : Nat) : (xs.map (eNode o)).getD i (dNode o) = eNode o (xs.getD i zNode) := getD_map_ ..
theorem shrR_Node (o : Bool) (xs : List Node) : T.shrR (xs.map (eNode o)) = xs.map (eNode false) := T.shrR_map _ _ (fun x => by simp only [eNode, T.shrL, T.shr, shrR_Entry, shrR_I_i64]) xs
theorem noShR_Node (xs : List Node) : T.noShR (xs.map (eNode true)) = True := noShR_map _ (fun _ => by simp [eNode, T.noShL, T.noSh, noShR_Entry, noShR_I_i64]) xs
theorem cpRows_Node (o : Bool) (xs : List Node) : cpRows none (xs.map (eNode o)) = True := cpRowsN_map _ (fun _ => by simp [eNode, T.solid]) xs
attribute [go_sem] getD_Node shrR_Node noShR_Node cpRows_Node
theorem dropd_Node (o : Bool) : List.drop 10 (dNode o) = [] := rfl
theorem tm_Node : tm (dNode true) = [.int .i64 0, .int .i64 0, .int .i64 0, .int .i64 0, .sl true 9 [], .int .i64 0, .int .i64 0, .sl true 1 [], .sl true 1 [], .sl true 1 []] := rfl
attribute [go_sem] dropd_Node tm_Node
def qNode (x : Node) : Prop := x.log.length ≤ 9223372036854775807 ∧ x.votes.length ≤ 9223372036854775807 ∧ x.next.length ≤ 9223372036854775807 ∧ x.match_.length ≤ 9223372036854775807
structure Mail where
  kind : Int
  from_ : Int
  to_ : Int
  term : Int
  index : Int
  last : Int
  commit : Int
  ok : Bool
  entries : List Entry
def eMail (o : Bool) (x : Mail) : List T := [.int .i64 x.kind, .int .i64 x.from_, .int .i64 x.to_, .int .i64 x.term, .int .i64 x.index, .int .i64 x.last, .int .i64 x.commit, .bool x.ok, .sl o 9 (x.entries.map eEntry)]
def zMail : Mail := ⟨0, 0, 0, 0, 0, 0, 0, false, []⟩
def dMail (o : Bool) : List T := eMail o zMail
theorem getD_Mail (o : Bool) (xs : List Mail) (i : Nat) : (xs.map (eMail o)).getD i (dMail o) = eMail o (xs.getD i zMail) := getD_map_ ..
theorem shrR_Mail (o : Bool) (xs : List Mail) : T.shrR (xs.map (eMail o)) = xs.map (eMail false) := T.shrR_map _ _ (fun x => by simp only [eMail, T.shrL, T.shr, shrR_Entry]) xs
theorem noShR_Mail (xs : List Mail) : T.noShR (xs.map (eMail true)) = True := noShR_map _ (fun _ => by simp [eMail, T.noShL, T.noSh, noShR_Entry]) xs
theorem cpRows_Mail (o : Bool) (xs : List Mail) : cpRows none (xs.map (eMail o)) = True := cpRowsN_map _ (fun _ => by simp [eMail, T.solid]) xs
attribute [go_sem] getD_Mail shrR_Mail noShR_Mail cpRows_Mail
theorem dropd_Mail (o : Bool) : List.drop 9 (dMail o) = [] := rfl
theorem tm_Mail : tm (dMail true) = [.int .i64 0, .int .i64 0, .int .i64 0, .int .i64 0, .int .i64 0, .int .i64 0, .int .i64 0, .bool false, .sl true 9 []] := rfl
attribute [go_sem] dropd_Mail tm_Mail
def qMail (x : Mail) : Prop := x.entries.length ≤ 9223372036854775807
structure Won where
  term : Int
  node : Int
def eWon (x : Won) : List T := [.int .i64 x.term, .int .i64 x.node]
def zWon : Won := ⟨0, 0⟩
def dWon : List T := eWon zWon
theorem getD_Won (xs : List Won) (i : Nat) : (xs.map eWon).getD i dWon = eWon (xs.getD i zWon) := getD_map_ ..
theorem shrR_Won (xs : List Won) : T.shrR (xs.map eWon) = xs.map eWon := T.shrR_map _ _ (fun _ => rfl) xs
theorem noShR_Won (xs : List Won) : T.noShR (xs.map eWon) = True := noShR_map _ (fun _ => by simp [eWon, T.noShL, T.noSh]) xs
theorem roRows_Won (xs : List Won) : roRows (xs.map eWon) = xs.map eWon := roRows_map _ _ (fun _ => rfl) xs
theorem cpRows_Won (d : Dep) (xs : List Won) : cpRows d (xs.map eWon) = True := cpRows_map _ (fun _ => by simp [eWon, T.flat]) d xs
attribute [go_sem] getD_Won shrR_Won noShR_Won roRows_Won cpRows_Won
theorem dropd_Won : List.drop 2 dWon = [] := rfl
theorem tm_Won : tm dWon = [.int .i64 0, .int .i64 0] := rfl
attribute [go_sem] dropd_Won tm_Won
structure Seal where
  term : Int
  entry : Entry
def eSeal (x : Seal) : List T := [.int .i64 x.term, .int .i64 x.entry.term, .int .i64 x.entry.client, .int .i64 x.entry.seq, .int .i64 x.entry.cmd.kind, .int .i64 x.entry.cmd.expect, .int .i64 x.entry.cmd.name, .int .i64 x.entry.cmd.addr, .int .i64 x.entry.cmd.number, .int .i64 x.entry.cmd.proto]
def zSeal : Seal := ⟨0, zEntry⟩
def dSeal : List T := eSeal zSeal
theorem getD_Seal (xs : List Seal) (i : Nat) : (xs.map eSeal).getD i dSeal = eSeal (xs.getD i zSeal) := getD_map_ ..
theorem shrR_Seal (xs : List Seal) : T.shrR (xs.map eSeal) = xs.map eSeal := T.shrR_map _ _ (fun _ => rfl) xs
theorem noShR_Seal (xs : List Seal) : T.noShR (xs.map eSeal) = True := noShR_map _ (fun _ => by simp [eSeal, T.noShL, T.noSh]) xs
theorem roRows_Seal (xs : List Seal) : roRows (xs.map eSeal) = xs.map eSeal := roRows_map _ _ (fun _ => rfl) xs
theorem cpRows_Seal (d : Dep) (xs : List Seal) : cpRows d (xs.map eSeal) = True := cpRows_map _ (fun _ => by simp [eSeal, T.flat]) d xs
attribute [go_sem] getD_Seal shrR_Seal noShR_Seal roRows_Seal cpRows_Seal
theorem dropd_Seal : List.drop 10 dSeal = [] := rfl
theorem tm_Seal : tm dSeal = [.int .i64 0, .int .i64 0, .int .i64 0, .int .i64 0, .int .i64 0, .int .i64 0, .int .i64 0, .int .i64 0, .int .i64 0, .int .i64 0] := rfl
attribute [go_sem] dropd_Seal tm_Seal
structure Cluster where
  nodes : List Node
  mails : List Mail
  wins : List Won
  seals : List Seal
def eCluster (o : Bool) (x : Cluster) : List T := [.sl o 10 (x.nodes.map (eNode o)), .sl o 9 (x.mails.map (eMail o)), .sl o 2 (x.wins.map eWon), .sl o 10 (x.seals.map eSeal)]
def zCluster : Cluster := ⟨[], [], [], []⟩
def dCluster (o : Bool) : List T := eCluster o zCluster
theorem getD_Cluster (o : Bool) (xs : List Cluster) (i : Nat) : (xs.map (eCluster o)).getD i (dCluster o) = eCluster o (xs.getD i zCluster) := getD_map_ ..
theorem shrR_Cluster (o : Bool) (xs : List Cluster) : T.shrR (xs.map (eCluster o)) = xs.map (eCluster false) := T.shrR_map _ _ (fun x => by simp only [eCluster, T.shrL, T.shr, shrR_Mail, shrR_Node, shrR_Seal, shrR_Won]) xs
theorem noShR_Cluster (xs : List Cluster) : T.noShR (xs.map (eCluster true)) = True := noShR_map _ (fun _ => by simp [eCluster, T.noShL, T.noSh, noShR_Mail, noShR_Node, noShR_Seal, noShR_Won]) xs
theorem cpRows_Cluster (o : Bool) (xs : List Cluster) : cpRows none (xs.map (eCluster o)) = True := cpRowsN_map _ (fun _ => by simp [eCluster, T.solid]) xs
attribute [go_sem] getD_Cluster shrR_Cluster noShR_Cluster cpRows_Cluster
theorem dropd_Cluster (o : Bool) : List.drop 4 (dCluster o) = [] := rfl
theorem tm_Cluster : tm (dCluster true) = [.sl true 10 [], .sl true 9 [], .sl true 2 [], .sl true 10 []] := rfl
attribute [go_sem] dropd_Cluster tm_Cluster
def qCluster (x : Cluster) : Prop := (x.nodes.length ≤ 9223372036854775807 ∧ ∀ y ∈ x.nodes, qNode y) ∧ (x.mails.length ≤ 9223372036854775807 ∧ ∀ y ∈ x.mails, qMail y) ∧ x.wins.length ≤ 9223372036854775807 ∧ x.seals.length ≤ 9223372036854775807
structure ClusterResult where
  code : Int
  cluster : Cluster
def eClusterResult (o : Bool) (x : ClusterResult) : List T := [.int .i64 x.code, .sl o 10 (x.cluster.nodes.map (eNode o)), .sl o 9 (x.cluster.mails.map (eMail o)), .sl o 2 (x.cluster.wins.map eWon), .sl o 10 (x.cluster.seals.map eSeal)]
def zClusterResult : ClusterResult := ⟨0, zCluster⟩
def dClusterResult (o : Bool) : List T := eClusterResult o zClusterResult
theorem getD_ClusterResult (o : Bool) (xs : List ClusterResult) (i : Nat) : (xs.map (eClusterResult o)).getD i (dClusterResult o) = eClusterResult o (xs.getD i zClusterResult) := getD_map_ ..
theorem shrR_ClusterResult (o : Bool) (xs : List ClusterResult) : T.shrR (xs.map (eClusterResult o)) = xs.map (eClusterResult false) := T.shrR_map _ _ (fun x => by simp only [eClusterResult, T.shrL, T.shr, shrR_Mail, shrR_Node, shrR_Seal, shrR_Won]) xs
theorem noShR_ClusterResult (xs : List ClusterResult) : T.noShR (xs.map (eClusterResult true)) = True := noShR_map _ (fun _ => by simp [eClusterResult, T.noShL, T.noSh, noShR_Mail, noShR_Node, noShR_Seal, noShR_Won]) xs
theorem cpRows_ClusterResult (o : Bool) (xs : List ClusterResult) : cpRows none (xs.map (eClusterResult o)) = True := cpRowsN_map _ (fun _ => by simp [eClusterResult, T.solid]) xs
attribute [go_sem] getD_ClusterResult shrR_ClusterResult noShR_ClusterResult cpRows_ClusterResult
theorem dropd_ClusterResult (o : Bool) : List.drop 5 (dClusterResult o) = [] := rfl
theorem tm_ClusterResult : tm (dClusterResult true) = [.int .i64 0, .sl true 10 [], .sl true 9 [], .sl true 2 [], .sl true 10 []] := rfl
attribute [go_sem] dropd_ClusterResult tm_ClusterResult
def qClusterResult (x : ClusterResult) : Prop := qCluster x.cluster
structure NodeResult where
  code : Int
  node : Node
  send : List Mail
def eNodeResult (o : Bool) (x : NodeResult) : List T := [.int .i64 x.code, .int .i64 x.node.id, .int .i64 x.node.peers, .int .i64 x.node.term, .int .i64 x.node.voted, .sl o 9 (x.node.log.map eEntry), .int .i64 x.node.role, .int .i64 x.node.commit, .sl o 1 (x.node.votes.map eI_i64), .sl o 1 (x.node.next.map eI_i64), .sl o 1 (x.node.match_.map eI_i64), .sl o 9 (x.send.map (eMail o))]
def zNodeResult : NodeResult := ⟨0, zNode, []⟩
def dNodeResult (o : Bool) : List T := eNodeResult o zNodeResult
theorem getD_NodeResult (o : Bool) (xs : List NodeResult) (i : Nat) : (xs.map (eNodeResult o)).getD i (dNodeResult o) = eNodeResult o (xs.getD i zNodeResult) := getD_map_ ..
theorem shrR_NodeResult (o : Bool) (xs : List NodeResult) : T.shrR (xs.map (eNodeResult o)) = xs.map (eNodeResult false) := T.shrR_map _ _ (fun x => by simp only [eNodeResult, T.shrL, T.shr, shrR_Entry, shrR_I_i64, shrR_Mail]) xs
theorem noShR_NodeResult (xs : List NodeResult) : T.noShR (xs.map (eNodeResult true)) = True := noShR_map _ (fun _ => by simp [eNodeResult, T.noShL, T.noSh, noShR_Entry, noShR_I_i64, noShR_Mail]) xs
theorem cpRows_NodeResult (o : Bool) (xs : List NodeResult) : cpRows none (xs.map (eNodeResult o)) = True := cpRowsN_map _ (fun _ => by simp [eNodeResult, T.solid]) xs
attribute [go_sem] getD_NodeResult shrR_NodeResult noShR_NodeResult cpRows_NodeResult
theorem dropd_NodeResult (o : Bool) : List.drop 12 (dNodeResult o) = [] := rfl
theorem tm_NodeResult : tm (dNodeResult true) = [.int .i64 0, .int .i64 0, .int .i64 0, .int .i64 0, .int .i64 0, .sl true 9 [], .int .i64 0, .int .i64 0, .sl true 1 [], .sl true 1 [], .sl true 1 [], .sl true 9 []] := rfl
attribute [go_sem] dropd_NodeResult tm_NodeResult
def qNodeResult (x : NodeResult) : Prop := qNode x.node ∧ (x.send.length ≤ 9223372036854775807 ∧ ∀ y ∈ x.send, qMail y)
structure EntriesResult where
  code : Int
  entries : List Entry
def eEntriesResult (o : Bool) (x : EntriesResult) : List T := [.int .i64 x.code, .sl o 9 (x.entries.map eEntry)]
def zEntriesResult : EntriesResult := ⟨0, []⟩
def dEntriesResult (o : Bool) : List T := eEntriesResult o zEntriesResult
theorem getD_EntriesResult (o : Bool) (xs : List EntriesResult) (i : Nat) : (xs.map (eEntriesResult o)).getD i (dEntriesResult o) = eEntriesResult o (xs.getD i zEntriesResult) := getD_map_ ..
theorem shrR_EntriesResult (o : Bool) (xs : List EntriesResult) : T.shrR (xs.map (eEntriesResult o)) = xs.map (eEntriesResult false) := T.shrR_map _ _ (fun x => by simp only [eEntriesResult, T.shrL, T.shr, shrR_Entry]) xs
theorem noShR_EntriesResult (xs : List EntriesResult) : T.noShR (xs.map (eEntriesResult true)) = True := noShR_map _ (fun _ => by simp [eEntriesResult, T.noShL, T.noSh, noShR_Entry]) xs
theorem cpRows_EntriesResult (o : Bool) (xs : List EntriesResult) : cpRows none (xs.map (eEntriesResult o)) = True := cpRowsN_map _ (fun _ => by simp [eEntriesResult, T.solid]) xs
attribute [go_sem] getD_EntriesResult shrR_EntriesResult noShR_EntriesResult cpRows_EntriesResult
theorem dropd_EntriesResult (o : Bool) : List.drop 2 (dEntriesResult o) = [] := rfl
theorem tm_EntriesResult : tm (dEntriesResult true) = [.int .i64 0, .sl true 9 []] := rfl
attribute [go_sem] dropd_EntriesResult tm_EntriesResult
def qEntriesResult (x : EntriesResult) : Prop := x.entries.length ≤ 9223372036854775807
structure IntResult where
  code : Int
  value : Int
def eIntResult (x : IntResult) : List T := [.int .i64 x.code, .int .i64 x.value]
def zIntResult : IntResult := ⟨0, 0⟩
def dIntResult : List T := eIntResult zIntResult
theorem getD_IntResult (xs : List IntResult) (i : Nat) : (xs.map eIntResult).getD i dIntResult = eIntResult (xs.getD i zIntResult) := getD_map_ ..
theorem shrR_IntResult (xs : List IntResult) : T.shrR (xs.map eIntResult) = xs.map eIntResult := T.shrR_map _ _ (fun _ => rfl) xs
theorem noShR_IntResult (xs : List IntResult) : T.noShR (xs.map eIntResult) = True := noShR_map _ (fun _ => by simp [eIntResult, T.noShL, T.noSh]) xs
theorem roRows_IntResult (xs : List IntResult) : roRows (xs.map eIntResult) = xs.map eIntResult := roRows_map _ _ (fun _ => rfl) xs
theorem cpRows_IntResult (d : Dep) (xs : List IntResult) : cpRows d (xs.map eIntResult) = True := cpRows_map _ (fun _ => by simp [eIntResult, T.flat]) d xs
attribute [go_sem] getD_IntResult shrR_IntResult noShR_IntResult roRows_IntResult cpRows_IntResult
theorem dropd_IntResult : List.drop 2 dIntResult = [] := rfl
theorem tm_IntResult : tm dIntResult = [.int .i64 0, .int .i64 0] := rfl
attribute [go_sem] dropd_IntResult tm_IntResult
def eI_u8 (n : Int) : List T := [.int .u8 n]
def zI_u8 : Int := 0
def dI_u8 : List T := eI_u8 zI_u8
theorem getD_I_u8 (xs : List Int) (i : Nat) : (xs.map eI_u8).getD i dI_u8 = eI_u8 (xs.getD i zI_u8) := getD_map_ ..
theorem shrR_I_u8 (xs : List Int) : T.shrR (xs.map eI_u8) = xs.map eI_u8 := T.shrR_map _ _ (fun _ => rfl) xs
theorem noShR_I_u8 (xs : List Int) : T.noShR (xs.map eI_u8) = True := noShR_map _ (fun _ => by simp [eI_u8, T.noShL, T.noSh]) xs
theorem roRows_I_u8 (xs : List Int) : roRows (xs.map eI_u8) = xs.map eI_u8 := roRows_map _ _ (fun _ => rfl) xs
theorem cpRows_I_u8 (d : Dep) (xs : List Int) : cpRows d (xs.map eI_u8) = True := cpRows_map _ (fun _ => by simp [eI_u8, T.flat]) d xs
attribute [go_sem] getD_I_u8 shrR_I_u8 noShR_I_u8 roRows_I_u8 cpRows_I_u8
theorem dropd_I_u8 : List.drop 1 dI_u8 = [] := rfl
theorem tm_I_u8 : tm dI_u8 = [.int .u8 0] := rfl
attribute [go_sem] dropd_I_u8 tm_I_u8
attribute [go_sem] eI_i64 eCluster eNode eEntry eCmd eMail eWon eSeal eClusterResult eNodeResult eEntriesResult eIntResult eI_u8
end Go.H
end
section
set_option linter.unusedVariables false
namespace Go.H
open Go
attribute [go_sem] V.scalar TV.noSh T.noSh T.noShL Ob.noSh V.zT liveV liveL verM capM TV.noShs Ob.noShs T.shr T.shrL roCs roC T.isOwn liveD List.take_length List.drop_zero List.take_zero List.map_nil
attribute [go_sem] decide_false Bool.or_false Bool.true_or Bool.or_true Bool.false_or Bool.and_false Int.natCast_add Int.natCast_one Int.cast_ofNat_Int Nat.add_zero
attribute [go_sem] List.length_map Int.toNat_natCast List.length_append List.length_take List.length_drop List.take_take Nat.min_self List.length_cons List.length_nil List.length_set List.length_replicate
theorem take_map' {α β : Type} (f : α → β) (l : List α) (i : Nat) : (l.map f).take i = (l.take i).map f := List.map_take.symm
theorem drop_map' {α β : Type} (f : α → β) (l : List α) (i : Nat) : (l.map f).drop i = (l.drop i).map f := List.map_drop.symm
theorem app_map' {α β : Type} (f : α → β) (l m : List α) : l.map f ++ m.map f = (l ++ m).map f := List.map_append.symm
attribute [go_sem] take_map' drop_map' app_map'
attribute [go_sem] reduceCtorEq Nat.reduceMod Nat.reduceEqDiff Nat.reduceAdd Nat.reduceMul Nat.reduceLeDiff Nat.reduceLT
theorem take_succ_map {α β : Type} (f : α → β) (d : α) {xs : List α} {i : Nat} (h : i < xs.length) : (xs.take (i + 1)).map f = (xs.take i).map f ++ [f (xs.getD i d)] := by
  rw [List.take_add_one, List.map_append, List.getD_eq_getElem?_getD, List.getElem?_eq_getElem h]
  rfl
def inR (a b c : Int) : Bool := decide (b ≤ a) && decide (a ≤ c)
attribute [go_sem] eqVL eqV
attribute [go_sem] T.noShR T.shrL T.shrR roCs roC cVcL Bool.cond_true_left Bool.cond_false_left Bool.cond_true_right Bool.not_eq_true' beq_false obM lkey obOk bne_self_eq_false beq_self_eq_true Bool.not_false ne_eq not_true_eq_false not_false_eq_true eq_self decide_not Bool.not_true
def aS (l : List T) : Arg := .agg (l.map C.t)
def aT (t : T) : Arg := .one (.t t)
def aI (n : Int) : Arg := .one (.t (.int .i64 n))
def rI (n : Int) : TV := .one (.int .i64 n)
def rB (b : Bool) : TV := .one (.bool b)
attribute [go_sem] aS aT aI rI rB okI
theorem drop_getD {α : Type} (d : α) {xs : List α} {i : Nat} (h : i < xs.length) : xs.drop i = xs.getD i d :: xs.drop (i + 1) := by
  rw [List.drop_eq_getElem_cons h, List.getD_eq_getElem?_getD, List.getElem?_eq_getElem h]
  rfl
theorem getD_set_self {α : Type} {l : List α} {i : Nat} (h : i < l.length) (r d : α) : (l.set i r).getD i d = r := by
  rw [List.getD_eq_getElem?_getD, List.getElem?_set_self h]
  rfl
theorem all_getD {α : Type} (d : α) {xs : List α} {p : α → Prop} : (∀ i < xs.length, p (xs.getD i d)) ↔ ∀ x ∈ xs, p x := by
  constructor
  · intro h x hx
    obtain ⟨i, hi, rfl⟩ := List.getElem_of_mem hx
    have := h i hi
    rwa [List.getD_eq_getElem?_getD, List.getElem?_eq_getElem hi] at this
  · intro h i hi
    rw [List.getD_eq_getElem?_getD, List.getElem?_eq_getElem hi]
    exact h _ (List.getElem_mem hi)
def szL (n : Nat) (l : Int) : Int := if l - n < 0 then -1 else l - n
def szT (l : Int) (k : Int → Int) : Int := if l < 0 then -1 else k l
def szNode (x : Node) (l : Int) : Int := szT (szL x.log.length l) fun l => szT (szL x.votes.length l) fun l => szT (szL x.next.length l) fun l => szT (szL x.match_.length l) fun l => l
def szMail (x : Mail) (l : Int) : Int := szT (szL x.entries.length l) fun l => l
def szNodes : List Node → Int → Int
  | [], l => l
  | x :: xs, l => szT (szNode x l) (szNodes xs)
def szMails : List Mail → Int → Int
  | [], l => l
  | x :: xs, l => szT (szMail x l) (szMails xs)
def szNs (xs : List Node) (l : Int) : Int := szT (szL xs.length l) (szNodes xs)
def szMs (xs : List Mail) (l : Int) : Int := szT (szL xs.length l) (szMails xs)
def szCluster (x : Cluster) (l : Int) : Int := szT (szNs x.nodes l) fun l => szT (szMs x.mails l) fun l => szT (szL x.wins.length l) fun l => szT (szL x.seals.length l) fun l => l
theorem szL_lo (n : Nat) (l : Int) : -1 ≤ szL n l := by unfold szL; split <;> omega
theorem szL_hi {n : Nat} {l b : Int} (h : l ≤ b) (hb : -1 ≤ b) : szL n l ≤ b := by unfold szL; split <;> omega
theorem szL_ge {n : Nat} {l : Int} (h : 0 ≤ szL n l) : szL n l = l - n ∧ n ≤ l := by
  unfold szL at *
  split at h
  · omega
  · rename_i h2
    rw [if_neg h2]
    omega
theorem szT_lo {l : Int} {k : Int → Int} (h : 0 ≤ l → -1 ≤ k l) : -1 ≤ szT l k := by unfold szT; split <;> first | omega | exact h (by omega)
theorem szT_hi {l b : Int} {k : Int → Int} (hb : -1 ≤ b) (h : k l ≤ b) : szT l k ≤ b := by unfold szT; split <;> first | omega | exact h
theorem szT_ge {l : Int} {k : Int → Int} (h : 0 ≤ szT l k) : 0 ≤ l ∧ 0 ≤ k l ∧ szT l k = k l := by
  unfold szT at *
  split at h
  · omega
  · rename_i h2
    rw [if_neg h2]
    omega
theorem szNode_lo (x : Node) (l : Int) (h : l ≤ 1048576) : -1 ≤ szNode x l ∧ szNode x l ≤ 1048576 :=
  ⟨szT_lo fun _ => szT_lo fun _ => szT_lo fun _ => szT_lo fun _ => szL_lo .., szT_hi (by omega) (szT_hi (by omega) (szT_hi (by omega) (szT_hi (by omega) (szL_hi (szL_hi (szL_hi (szL_hi h (by omega)) (by omega)) (by omega)) (by omega)))))⟩
theorem szMail_lo (x : Mail) (l : Int) (h : l ≤ 1048576) : -1 ≤ szMail x l ∧ szMail x l ≤ 1048576 :=
  ⟨szT_lo fun _ => szL_lo .., szT_hi (by omega) (szL_hi h (by omega))⟩
theorem szNodes_lo : ∀ (xs : List Node) (l : Int), -1 ≤ l → l ≤ 1048576 → -1 ≤ szNodes xs l ∧ szNodes xs l ≤ 1048576
  | [], l, h1, h2 => ⟨h1, h2⟩
  | x :: xs, l, h1, h2 => by
    have := szNode_lo x l h2
    have h3 := szNodes_lo xs (szNode x l) this.1 this.2
    exact ⟨szT_lo fun _ => h3.1, szT_hi (by omega) h3.2⟩
theorem szMails_lo : ∀ (xs : List Mail) (l : Int), -1 ≤ l → l ≤ 1048576 → -1 ≤ szMails xs l ∧ szMails xs l ≤ 1048576
  | [], l, h1, h2 => ⟨h1, h2⟩
  | x :: xs, l, h1, h2 => by
    have := szMail_lo x l h2
    have h3 := szMails_lo xs (szMail x l) this.1 this.2
    exact ⟨szT_lo fun _ => h3.1, szT_hi (by omega) h3.2⟩
theorem szNs_lo (xs : List Node) (l : Int) (h : l ≤ 1048576) : -1 ≤ szNs xs l ∧ szNs xs l ≤ 1048576 := by
  have := szNodes_lo xs _ (szL_lo xs.length l) (szL_hi h (by omega))
  exact ⟨szT_lo fun _ => this.1, szT_hi (by omega) this.2⟩
theorem szMs_lo (xs : List Mail) (l : Int) (h : l ≤ 1048576) : -1 ≤ szMs xs l ∧ szMs xs l ≤ 1048576 := by
  have := szMails_lo xs _ (szL_lo xs.length l) (szL_hi h (by omega))
  exact ⟨szT_lo fun _ => this.1, szT_hi (by omega) this.2⟩
def limN (b : Nat) (x : Node) : Prop := x.log.length ≤ b ∧ x.votes.length ≤ b ∧ x.next.length ≤ b ∧ x.match_.length ≤ b
def limM (b : Nat) (x : Mail) : Prop := x.entries.length ≤ b
def limC (b : Nat) (x : Cluster) : Prop := (x.nodes.length ≤ b ∧ ∀ y ∈ x.nodes, limN b y) ∧ (x.mails.length ≤ b ∧ ∀ y ∈ x.mails, limM b y) ∧ x.wins.length ≤ b ∧ x.seals.length ≤ b
theorem szNode_lim {x : Node} {l : Int} (h : 0 ≤ szNode x l) (hl : l ≤ 1048576) : limN 1048576 x ∧ szNode x l ≤ 1048576 := by
  unfold szNode at h
  obtain ⟨a1, a2, _⟩ := szT_ge h
  obtain ⟨b1, b2, _⟩ := szT_ge a2
  obtain ⟨c1, c2, _⟩ := szT_ge b2
  obtain ⟨d1, d2, _⟩ := szT_ge c2
  have e1 := szL_ge a1
  have e2 := szL_ge b1
  have e3 := szL_ge c1
  have e4 := szL_ge d1
  exact ⟨⟨by omega, by omega, by omega, by omega⟩, (szNode_lo x l hl).2⟩
theorem szMail_lim {x : Mail} {l : Int} (h : 0 ≤ szMail x l) (hl : l ≤ 1048576) : limM 1048576 x ∧ szMail x l ≤ 1048576 := by
  unfold szMail at h
  obtain ⟨a1, a2, _⟩ := szT_ge h
  have e1 := szL_ge a1
  exact ⟨by unfold limM; omega, (szMail_lo x l hl).2⟩
theorem szNodes_lim : ∀ {xs : List Node} {l : Int}, 0 ≤ szNodes xs l → l ≤ 1048576 → ∀ y ∈ xs, limN 1048576 y
  | [], _, _, _ => by simp
  | x :: xs, l, h, hl => by
    obtain ⟨a1, a2, _⟩ := szT_ge h
    obtain ⟨b1, b2⟩ := szNode_lim a1 hl
    intro y hy
    rcases List.mem_cons.1 hy with rfl | hy
    · exact b1
    · exact szNodes_lim a2 b2 y hy
theorem szMails_lim : ∀ {xs : List Mail} {l : Int}, 0 ≤ szMails xs l → l ≤ 1048576 → ∀ y ∈ xs, limM 1048576 y
  | [], _, _, _ => by simp
  | x :: xs, l, h, hl => by
    obtain ⟨a1, a2, _⟩ := szT_ge h
    obtain ⟨b1, b2⟩ := szMail_lim a1 hl
    intro y hy
    rcases List.mem_cons.1 hy with rfl | hy
    · exact b1
    · exact szMails_lim a2 b2 y hy
theorem szCluster_lim {x : Cluster} {l : Int} (h : 0 ≤ szCluster x l) (hl : l ≤ 1048576) : limC 1048576 x := by
  unfold szCluster at h
  obtain ⟨a1, a2, _⟩ := szT_ge h
  obtain ⟨b1, b2, _⟩ := szT_ge a2
  obtain ⟨c1, c2, _⟩ := szT_ge b2
  obtain ⟨d1, d2, _⟩ := szT_ge c2
  have e1 := (szNs_lo x.nodes l hl).2
  have e2 := (szMs_lo x.mails _ e1).2
  obtain ⟨f1, f2, _⟩ := szT_ge a1
  obtain ⟨g1, g2, _⟩ := szT_ge b1
  have q1 := szL_ge f1
  have q2 := szL_ge g1
  have q3 := szL_ge c1
  have q4 := szL_ge d1
  exact ⟨⟨by omega, szNodes_lim f2 (szL_hi hl (by omega))⟩, ⟨by omega, szMails_lim g2 (szL_hi e1 (by omega))⟩, by omega, by omega⟩
theorem getD_bld {α : Type} {l : List α} {n i : Nat} {d : α} (h : l.length = i) : (l ++ List.replicate n d).getD i d = d := by
  rw [List.getD_eq_getElem?_getD, List.getElem?_append_right (by omega)]
  cases h2 : (List.replicate n d)[i - l.length]? with
  | none => rfl
  | some x => exact List.eq_of_mem_replicate (List.mem_of_getElem? h2)
theorem bld_step {α : Type} (f : α → List T) (z : α) (d : List T) {xs : List α} {i : Nat} (h : i < xs.length) : ((xs.take i).map f ++ List.replicate (xs.length - i) d).set i (f (xs.getD i z)) = (xs.take (i + 1)).map f ++ List.replicate (xs.length - (i + 1)) d := by
  rw [take_succ_map f z h]
  have e : xs.length - i = (xs.length - (i + 1)) + 1 := by omega
  have hl : ((xs.take i).map f).length = i := by simp; omega
  rw [e, List.replicate_succ, List.set_append_right _ _ (by omega), hl, Nat.sub_self, List.set_cons_zero, List.append_assoc]
  rfl
attribute [go_sem] Nat.sub_self
def mkL {α : Type} (m : α → Int → α) (s : α → Int → Int) : List α → Int → List α
  | [], _ => []
  | x :: xs, k => m x k :: mkL m s xs (s x k)
def mkK {α : Type} (s : α → Int → Int) : List α → Int → Int
  | [], k => k
  | x :: xs, k => mkK s xs (s x k)
theorem mkL_length {α : Type} (m : α → Int → α) (s : α → Int → Int) : ∀ (xs : List α) (k : Int), (mkL m s xs k).length = xs.length
  | [], _ => rfl
  | x :: xs, k => by simp [mkL, mkL_length m s xs]
theorem mkL_snoc {α : Type} (m : α → Int → α) (s : α → Int → Int) (y : α) : ∀ (xs : List α) (k : Int), mkL m s (xs ++ [y]) k = mkL m s xs k ++ [m y (mkK s xs k)]
  | [], _ => rfl
  | x :: xs, k => by simp [mkL, mkK, mkL_snoc m s y xs]
theorem mkK_snoc {α : Type} (s : α → Int → Int) (y : α) : ∀ (xs : List α) (k : Int), mkK s (xs ++ [y]) k = s y (mkK s xs k)
  | [], _ => rfl
  | x :: xs, k => by simp [mkK, mkK_snoc s y xs]
theorem take_snoc {α : Type} (z : α) {xs : List α} {i : Nat} (h : i < xs.length) : xs.take (i + 1) = xs.take i ++ [xs.getD i z] := by
  rw [List.take_add_one, List.getD_eq_getElem?_getD, List.getElem?_eq_getElem h]
  rfl
theorem mkK_succ {α : Type} (s : α → Int → Int) (z : α) {xs : List α} {i : Nat} (h : i < xs.length) (k : Int) : mkK s (xs.take (i + 1)) k = s (xs.getD i z) (mkK s (xs.take i) k) := by
  rw [take_snoc z h, mkK_snoc]
theorem mk_step {α : Type} (f : α → List T) (m : α → Int → α) (s : α → Int → Int) (z : α) {xs : List α} {i : Nat} (h : i < xs.length) (k : Int) :
    ((mkL m s (xs.take i) k ++ xs.drop i).map f).set i (f (m (xs.getD i z) (mkK s (xs.take i) k))) = (mkL m s (xs.take (i + 1)) k ++ xs.drop (i + 1)).map f := by
  rw [take_snoc z h, mkL_snoc, drop_getD z h]
  have hl : (mkL m s (xs.take i) k).length = i := by rw [mkL_length]; simp; omega
  have e : ∀ y r, ((mkL m s (xs.take i) k ++ y :: r).map f).set i (f (m (xs.getD i z) (mkK s (xs.take i) k))) = (mkL m s (xs.take i) k ++ (m (xs.getD i z) (mkK s (xs.take i) k)) :: r).map f := by
    intro y r
    rw [List.map_append, List.set_append_right _ _ (by rw [List.length_map]; omega), List.length_map, hl, Nat.sub_self, List.map_cons, List.set_cons_zero, List.map_append, List.map_cons]
  rw [e, List.append_assoc]
  rfl
theorem mkL_getD {α : Type} (m : α → Int → α) (s : α → Int → Int) (z : α) : ∀ {xs : List α} {i : Nat} (k : Int), i < xs.length → (mkL m s xs k).getD i z = m (xs.getD i z) (mkK s (xs.take i) k)
  | [], i, k, h => by simp at h
  | x :: xs, 0, k, h => rfl
  | x :: xs, i + 1, k, h => by
    have := mkL_getD m s z (xs := xs) (i := i) (s x k) (by simpa using h)
    simpa only [mkL, List.getD_cons_succ, List.take_succ_cons, mkK] using this
theorem mk_getD {α : Type} (m : α → Int → α) (s : α → Int → Int) (z : α) {xs : List α} {i : Nat} (k : Int) (h : i < xs.length) : (mkL m s (xs.take i) k ++ xs.drop i).getD i z = xs.getD i z := by
  have hl : (mkL m s (xs.take i) k).length = i := by rw [mkL_length]; simp; omega
  rw [List.getD_eq_getElem?_getD, List.getElem?_append_right (by omega), hl, Nat.sub_self, drop_getD z h]
  rfl
theorem mkK_mono {α : Type} {s : α → Int → Int} (hs : ∀ x k, k ≤ s x k) : ∀ (xs : List α) (k : Int), k ≤ mkK s xs k
  | [], k => Int.le_refl k
  | x :: xs, k => Int.le_trans (hs x k) (mkK_mono hs xs _)
theorem mkK_app {α : Type} {s : α → Int → Int} : ∀ (xs ys : List α) (k : Int), mkK s (xs ++ ys) k = mkK s ys (mkK s xs k)
  | [], _, _ => rfl
  | x :: xs, ys, k => by simp [mkK, mkK_app xs ys]
theorem mkK_take {α : Type} {s : α → Int → Int} (hs : ∀ x k, k ≤ s x k) (xs : List α) (i : Nat) (k : Int) : mkK s (xs.take i) k ≤ mkK s xs k := by
  conv => rhs; rw [← List.take_append_drop i xs, mkK_app]
  exact mkK_mono hs _ _
theorem mkK_at {α : Type} {s : α → Int → Int} (hs : ∀ x k, k ≤ s x k) (z : α) {xs : List α} {i : Nat} (h : i < xs.length) {k b : Int} (hb : mkK s xs k ≤ b) : k ≤ mkK s (xs.take i) k ∧ s (xs.getD i z) (mkK s (xs.take i) k) ≤ b := by
  rw [← mkK_succ s z h]
  exact ⟨mkK_mono hs _ _, Int.le_trans (mkK_take hs _ _ _) hb⟩
theorem mkK_bd {α : Type} {s : α → Int → Int} {c : Int} (hc : 0 ≤ c) : ∀ {xs : List α} {k : Int}, (∀ x ∈ xs, ∀ k, s x k ≤ k + c) → mkK s xs k ≤ k + c * xs.length
  | [], k, h => by simp [mkK]
  | x :: xs, k, h => by
    have h1 := h x (by simp) k
    have h2 := mkK_bd hc (xs := xs) (k := s x k) fun y hy => h y (by simp [hy])
    simp only [mkK, List.length_cons]
    rw [show c * ((xs.length + 1 : Nat) : Int) = c * xs.length + c by rw [Int.natCast_add, Int.mul_add]; simp]
    omega
theorem arr_eq {sz v v' : Nat} {c : Option Nat} {r r' : List (List T)} (h1 : r = r') (h2 : v = v') : some (Mem.arr ⟨sz, r, v, c⟩) = some (Mem.arr ⟨sz, r', v', c⟩) := by rw [h1, h2]
theorem int_eq {k : IntKind} {a b : Int} (h : a = b) : some (V.int k a) = some (V.int k b) := by rw [h]
def mI (_ : Int) (k : Int) : Int := k
def sI (_ : Int) (k : Int) : Int := k + 1
def mC (_ : Cmd) (k : Int) : Cmd := ⟨k, k + 1, k + 1 + 1, k + 1 + 1 + 1, k + 1 + 1 + 1 + 1, k + 1 + 1 + 1 + 1 + 1⟩
def mE (x : Entry) (k : Int) : Entry := ⟨k, k + 1, k + 1 + 1, mC x.cmd (k + 1 + 1 + 1)⟩
def sE (_ : Entry) (k : Int) : Int := k + 1 + 1 + 1 + 1 + 1 + 1 + 1 + 1 + 1
def mW (_ : Won) (k : Int) : Won := ⟨k, k + 1⟩
def sW (_ : Won) (k : Int) : Int := k + 1 + 1
def mS (x : Seal) (k : Int) : Seal := ⟨k, mE x.entry (k + 1)⟩
def sS (_ : Seal) (k : Int) : Int := k + 1 + 1 + 1 + 1 + 1 + 1 + 1 + 1 + 1 + 1
def mM (x : Mail) (k : Int) : Mail := ⟨k, k + 1, k + 1 + 1, k + 1 + 1 + 1, k + 1 + 1 + 1 + 1, k + 1 + 1 + 1 + 1 + 1, k + 1 + 1 + 1 + 1 + 1 + 1, decide ((k + 1 + 1 + 1 + 1 + 1 + 1 + 1).tmod 3 = 0), mkL mE sE x.entries (k + 1 + 1 + 1 + 1 + 1 + 1 + 1 + 1)⟩
def sM (x : Mail) (k : Int) : Int := mkK sE x.entries (k + 1 + 1 + 1 + 1 + 1 + 1 + 1 + 1)
def mN1 (x : Node) (k : Int) : Node := { x with log := mkL mE sE x.log k, votes := mkL mI sI x.votes (mkK sE x.log k), next := mkL mI sI x.next (mkK sI x.votes (mkK sE x.log k)), match_ := mkL mI sI x.match_ (mkK sI x.next (mkK sI x.votes (mkK sE x.log k))) }
def sN1 (x : Node) (k : Int) : Int := mkK sI x.match_ (mkK sI x.next (mkK sI x.votes (mkK sE x.log k)))
def kN4 (x : Node) (k : Int) : Int := mkK sE x.log (k + 1 + 1 + 1 + 1)
def mN (x : Node) (k : Int) : Node := ⟨k, k + 1, k + 1 + 1, k + 1 + 1 + 1, mkL mE sE x.log (k + 1 + 1 + 1 + 1), kN4 x k, kN4 x k + 1, mkL mI sI x.votes (kN4 x k + 1 + 1), mkL mI sI x.next (mkK sI x.votes (kN4 x k + 1 + 1)), mkL mI sI x.match_ (mkK sI x.next (mkK sI x.votes (kN4 x k + 1 + 1)))⟩
def sN (x : Node) (k : Int) : Int := mkK sI x.match_ (mkK sI x.next (mkK sI x.votes (kN4 x k + 1 + 1)))
theorem sI_up (x : Int) (k : Int) : k ≤ sI x k := by unfold sI; omega
theorem sE_up (x : Entry) (k : Int) : k ≤ sE x k := by unfold sE; omega
theorem sW_up (x : Won) (k : Int) : k ≤ sW x k := by unfold sW; omega
theorem sS_up (x : Seal) (k : Int) : k ≤ sS x k := by unfold sS; omega
theorem sM_up (x : Mail) (k : Int) : k ≤ sM x k := by
  have := mkK_mono sE_up x.entries (k + 1 + 1 + 1 + 1 + 1 + 1 + 1 + 1)
  unfold sM; omega
theorem sN_up (x : Node) (k : Int) : k ≤ sN x k := by
  have h1 := mkK_mono sE_up x.log (k + 1 + 1 + 1 + 1)
  have h2 := mkK_mono sI_up x.votes (kN4 x k + 1 + 1)
  have h3 := mkK_mono sI_up x.next (mkK sI x.votes (kN4 x k + 1 + 1))
  have h4 := mkK_mono sI_up x.match_ (mkK sI x.next (mkK sI x.votes (kN4 x k + 1 + 1)))
  unfold sN; unfold kN4 at *; omega
theorem getD_mem {α : Type} (z : α) {xs : List α} {i : Nat} (h : i < xs.length) : xs.getD i z ∈ xs := by
  rw [List.getD_eq_getElem?_getD, List.getElem?_eq_getElem h]
  exact List.getElem_mem h
theorem sN1_up (x : Node) (k : Int) : k ≤ sN1 x k := by
  have h1 := mkK_mono sE_up x.log k
  have h2 := mkK_mono sI_up x.votes (mkK sE x.log k)
  have h3 := mkK_mono sI_up x.next (mkK sI x.votes (mkK sE x.log k))
  have h4 := mkK_mono sI_up x.match_ (mkK sI x.next (mkK sI x.votes (mkK sE x.log k)))
  unfold sN1; omega
def mCl (x : Cluster) (k : Int) : Cluster := ⟨mkL mN sN x.nodes k, mkL mM sM x.mails (mkK sN x.nodes k), mkL mW sW x.wins (mkK sM x.mails (mkK sN x.nodes k)), mkL mS sS x.seals (mkK sW x.wins (mkK sM x.mails (mkK sN x.nodes k)))⟩
def sCl (x : Cluster) (k : Int) : Int := mkK sS x.seals (mkK sW x.wins (mkK sM x.mails (mkK sN x.nodes k)))
theorem sCl_up (x : Cluster) (k : Int) : k ≤ sCl x k := by
  have v1 := mkK_mono sN_up x.nodes k
  have v2 := mkK_mono sM_up x.mails (mkK sN x.nodes k)
  have v3 := mkK_mono sW_up x.wins (mkK sM x.mails (mkK sN x.nodes k))
  have v4 := mkK_mono sS_up x.seals (mkK sW x.wins (mkK sM x.mails (mkK sN x.nodes k)))
  unfold sCl; omega
theorem mCl_n (x : Cluster) (k : Int) : (mCl x k).nodes.length = x.nodes.length := mkL_length ..
theorem mCl_m (x : Cluster) (k : Int) : (mCl x k).mails.length = x.mails.length := mkL_length ..
theorem mCl_w (x : Cluster) (k : Int) : (mCl x k).wins.length = x.wins.length := mkL_length ..
theorem mCl_s (x : Cluster) (k : Int) : (mCl x k).seals.length = x.seals.length := mkL_length ..
attribute [go_sem] mCl_n mCl_m mCl_w mCl_s
theorem mCl_tn (x : Cluster) (k : Int) : List.take x.nodes.length (mCl x k).nodes = (mCl x k).nodes := List.take_of_length_le (by rw [mCl_n]; exact Nat.le_refl _)
theorem mCl_tm (x : Cluster) (k : Int) : List.take x.mails.length (mCl x k).mails = (mCl x k).mails := List.take_of_length_le (by rw [mCl_m]; exact Nat.le_refl _)
theorem mCl_tw (x : Cluster) (k : Int) : List.take x.wins.length (mCl x k).wins = (mCl x k).wins := List.take_of_length_le (by rw [mCl_w]; exact Nat.le_refl _)
theorem mCl_ts (x : Cluster) (k : Int) : List.take x.seals.length (mCl x k).seals = (mCl x k).seals := List.take_of_length_le (by rw [mCl_s]; exact Nat.le_refl _)
attribute [go_sem] mCl_tn mCl_tm mCl_tw mCl_ts
theorem toNat_sub1 (n : Nat) : ((n : Int) - 1).toNat = n - 1 := by omega
theorem toNat_add1 (n : Nat) : ((n : Int) + 1).toNat = n + 1 := by omega
attribute [go_sem] toNat_sub1 toNat_add1 Int.add_sub_cancel
def w64 (n : Int) : Int := IntKind.wrap .i64 n
def lastE (xs : List Entry) : Entry := if xs.length = 0 then zEntry else xs.getD (xs.length - 1) zEntry
def isId (x : Node) (i : Int) : Bool := inR i 0 (IntKind.wrap .i64 (x.peers - 1))
def cVip (k : Int) : Bool := inR k 5 8
def isNum (x : Cmd) : Bool := if x.kind = 1 ∨ x.kind = 2 then inR x.number 0 9 else if x.kind = 3 then inR x.number 1 3 else if x.kind = 9 then inR x.number 0 1 else inR x.number 0 65535
def isPro (n : Int) : Bool := decide (n = 6) || decide (n = 17)
def nd1 (k : Int) : Bool := !inR k 5 6
def nd2 (k : Int) : Bool := decide (k = 1) || inR k 5 8
def nd3 (k : Int) : Bool := !decide (k = 4)
def nd4 (k : Int) : Bool := inR k 5 8
def cmdFault (x : Cmd) : Int :=
  if !inR x.kind 1 9 then 1 else
  if !inR x.expect (-1) 1000000 || (nd1 x.kind && !inR x.name 1 999) || (nd2 x.kind && !inR x.addr 0 4294967295) || (nd3 x.kind && !isNum x) || (nd4 x.kind && !isPro x.proto) then 3 else
  if (!nd1 x.kind && decide (x.name ≠ 0)) || (!nd2 x.kind && decide (x.addr ≠ 0)) || (!nd3 x.kind && decide (x.number ≠ 0)) || (!nd4 x.kind && decide (x.proto ≠ 0)) then 1 else 0
theorem exp_eq (n : Int) : (!decide (n = -1) && !inR n 0 1000000) = !inR n (-1) 1000000 := by
  rw [Bool.eq_iff_iff]
  simp [inR]
  omega
def cmdZero (c : Cmd) : Bool := decide (c.kind = 0) && (decide (c.expect = 0) && (decide (c.name = 0) && (decide (c.addr = 0) && (decide (c.number = 0) && decide (c.proto = 0)))))
def entryFault (x : Entry) : Int :=
  if !inR x.term 1 100000 || !inR x.client 0 999 || !inR x.seq 0 1000000 then 3 else
  if decide (x.client = 0) ≠ decide (x.seq = 0) then 1 else
  if x.client ≠ 0 then cmdFault x.cmd else
  if !cmdZero x.cmd then 1 else 0
def scanN (f : Nat → Int) : Nat → Nat → Int
  | 0, _ => 0
  | n + 1, i => if f i = 0 then scanN f n (i + 1) else f i
def scan (f : Nat → Int) (n i : Nat) : Int := scanN f (n - i) i
theorem scan_lt {f : Nat → Int} {n i : Nat} (h : i < n) : scan f n i = if f i = 0 then scan f n (i + 1) else f i := by
  unfold scan
  rw [show n - i = (n - (i + 1)) + 1 by omega]
  rfl
theorem scan_ge {f : Nat → Int} {n i : Nat} (h : n ≤ i) : scan f n i = 0 := by
  unfold scan
  rw [show n - i = 0 by omega]
  rfl
theorem scanN_zero {f : Nat → Int} : ∀ {n i : Nat}, scanN f n i = 0 ↔ ∀ j, j < n → f (i + j) = 0
  | 0, i => by simp [scanN]
  | n + 1, i => by
    simp only [scanN]
    constructor
    · intro h j hj
      split at h
      · rename_i h0
        rcases j with _ | j
        · exact h0
        · have := scanN_zero.1 h j (by omega)
          rw [show i + (j + 1) = i + 1 + j by omega]
          exact this
      · rename_i h0; exact absurd h h0
    · intro h
      have h0 := h 0 (by omega)
      rw [Nat.add_zero] at h0
      rw [if_pos h0]
      refine scanN_zero.2 fun j hj => ?_
      rw [show i + 1 + j = i + (j + 1) by omega]
      exact h (j + 1) (by omega)
theorem scan_zero {f : Nat → Int} {n : Nat} : scan f n 0 = 0 ↔ ∀ j, j < n → f j = 0 := by
  unfold scan
  rw [scanN_zero]
  simp
def logBad (xs : List Entry) (i : Nat) : Int :=
  if entryFault (xs.getD i zEntry) ≠ 0 then entryFault (xs.getD i zEntry) else
  if 0 < i ∧ (xs.getD i zEntry).term < (xs.getD (i - 1) zEntry).term then 1 else 0
def logFault (xs : List Entry) : Int := if 40 < xs.length then 2 else scan (logBad xs) xs.length 0
def rises (xs : List Int) : Prop := ∀ i, 0 < i → i < xs.length → xs.getD (i - 1) zI_i64 < xs.getD i zI_i64
def idsOk (x : Node) : Prop := ∀ i, i < x.votes.length → isId x (x.votes.getD i zI_i64) = true
noncomputable instance (xs : List Int) : Decidable (rises xs) := Classical.propDecidable _
noncomputable instance (x : Node) : Decidable (idsOk x) := Classical.propDecidable _
def due (x : Node) : Int := if x.role = 2 then x.peers else 0
def listsOk (x : Node) : Prop := rises x.votes ∧ ¬ (0 < x.votes.length ∧ x.role ≠ 1) ∧ idsOk x ∧ (x.next.length : Int) = due x ∧ (x.match_.length : Int) = due x
noncomputable instance (x : Node) : Decidable (listsOk x) := Classical.propDecidable _
def nodeRange (x : Node) : Bool := inR x.peers 1 5 && isId x x.id && inR x.term 0 100000 && (decide (x.voted = -1) || isId x x.voted) && inR x.role 0 2
def rangeOk (xs : List Int) (a b : Int) : Prop := ∀ i, i < xs.length → inR (xs.getD i zI_i64) a b = true
noncomputable instance (xs : List Int) (a b : Int) : Decidable (rangeOk xs a b) := Classical.propDecidable _
noncomputable def nodeFault (x : Node) : Int :=
  if nodeRange x = false then 3 else
  if logFault x.log ≠ 0 then logFault x.log else
  if x.term < (lastE x.log).term then 1 else
  if inR x.commit 0 x.log.length = false then 3 else
  if ¬ listsOk x then 1 else
  if ¬ rangeOk x.next 1 (x.log.length + 1) ∨ ¬ rangeOk x.match_ 0 x.log.length then 3 else
  if x.role ≠ 0 ∧ (x.voted ≠ x.id ∨ x.term = 0) then 1 else 0
noncomputable def idxP (p : Int → Bool) (xs : List Int) : Int := if ∃ i, i < xs.length ∧ p (xs.getD i zI_i64) = true then xs.findIdx p else -1
theorem idxP_none {p : Int → Bool} {xs : List Int} (h : ∀ i, i < xs.length → p (xs.getD i zI_i64) = false) : idxP p xs = -1 := by
  unfold idxP
  rw [if_neg]
  rintro ⟨i, hi, hp⟩
  rw [h i hi] at hp
  cases hp
theorem idxP_some {p : Int → Bool} {xs : List Int} {i : Nat} (hi : i < xs.length) (h : ∀ j, j < i → p (xs.getD j zI_i64) = false) (hp : p (xs.getD i zI_i64) = true) : idxP p xs = i := by
  unfold idxP
  rw [if_pos ⟨i, hi, hp⟩]
  congr 1
  rw [List.findIdx_eq hi]
  have e : ∀ j (hj : j < xs.length), xs.getD j zI_i64 = xs[j] := fun j hj => by rw [List.getD_eq_getElem?_getD, List.getElem?_eq_getElem hj]; rfl
  exact ⟨by rw [← e i hi]; exact hp, fun j hj => by rw [← e j (by omega)]; exact h j hj⟩
theorem idxP_ge {p : Int → Bool} {xs : List Int} : decide (idxP p xs ≥ 0) = decide (∃ i, i < xs.length ∧ p (xs.getD i zI_i64) = true) := by
  unfold idxP
  rw [Bool.eq_iff_iff]
  simp only [decide_eq_true_eq]
  split
  · rename_i h; exact ⟨fun _ => h, fun _ => by omega⟩
  · rename_i h; exact ⟨fun h2 => absurd h2 (by omega), fun h2 => absurd h2 h⟩
theorem wrap_small {n : Int} (h1 : -9223372036854775808 ≤ n) (h2 : n ≤ 9223372036854775807) : IntKind.wrap .i64 n = n := okI_wrap (k := .i64) ⟨h1, h2⟩
theorem voted_eq (x : Node) (h : inR x.peers 1 5 = true) : inR x.voted (-1) (IntKind.wrap .i64 (x.peers - 1)) = (decide (x.voted = -1) || isId x x.voted) := by
  unfold isId inR at *
  simp only [Bool.and_eq_true, decide_eq_true_eq] at h
  rw [wrap_small (by omega) (by omega), Bool.eq_iff_iff]
  simp
  omega
theorem listsOk_len {x : Node} (h : listsOk x) : x.next.length = x.match_.length := by
  unfold listsOk at h
  omega
def mailZeros (m : Mail) : Prop := (m.kind = 1 → m.commit = 0) ∧ (m.kind = 2 → m.index = 0 ∧ m.last = 0 ∧ m.commit = 0) ∧ (m.kind = 4 → m.last = 0 ∧ m.commit = 0)
noncomputable instance (m : Mail) : Decidable (mailZeros m) := Classical.propDecidable _
def mailRange (x : Node) (m : Mail) : Bool := isId x m.from_ && !decide (m.from_ = x.id) && decide (m.to_ = x.id) && inR m.term 1 100000 && inR m.index 0 40 && inR m.last 0 m.term && inR m.commit 0 40
def mailLog (m : Mail) : Prop := 0 < m.entries.length → m.kind = 3 ∧ (lastE m.entries).term ≤ m.term ∧ m.last ≤ (m.entries.getD 0 zEntry).term
def mailForm (m : Mail) : Prop := mailLog m ∧ (m.ok = true → m.kind = 2 ∨ m.kind = 4) ∧ mailZeros m ∧ (m.index = 0 → m.last = 0)
noncomputable instance (m : Mail) : Decidable (mailForm m) := Classical.propDecidable _
noncomputable def mailFault (x : Node) (m : Mail) : Int :=
  if inR m.kind 1 4 = false then 5 else
  if mailRange x m = false then 3 else
  if logFault m.entries ≠ 0 then logFault m.entries else
  if ¬ mailForm m then 1 else 0
noncomputable def nodeAt (x : Cluster) (i : Nat) : Int :=
  if nodeFault (x.nodes.getD i zNode) ≠ 0 then nodeFault (x.nodes.getD i zNode) else
  if (x.nodes.getD i zNode).id ≠ i ∨ (x.nodes.getD i zNode).peers ≠ x.nodes.length then 1 else 0
def place (x : Cluster) (n : Int) : Bool := inR n 0 ((x.nodes.length : Int) - 1)
noncomputable def mailAt (x : Cluster) (i : Nat) : Int :=
  if place x (x.mails.getD i zMail).to_ = false then 3 else mailFault (x.nodes.getD (x.mails.getD i zMail).to_.toNat zNode) (x.mails.getD i zMail)
def winAt (x : Cluster) (i : Nat) : Int := if inR (x.wins.getD i zWon).term 1 100000 = false ∨ place x (x.wins.getD i zWon).node = false then 3 else 0
def sealAt (x : Cluster) (i : Nat) : Int := if inR (x.seals.getD i zSeal).term 1 100000 = false then 3 else entryFault (x.seals.getD i zSeal).entry
theorem nodeAt_eq (x : Cluster) (i : Nat) : nodeAt x i = if nodeFault (x.nodes.getD i zNode) ≠ 0 then nodeFault (x.nodes.getD i zNode) else
  if (x.nodes.getD i zNode).id ≠ i ∨ (x.nodes.getD i zNode).peers ≠ x.nodes.length then 1 else 0 := rfl
theorem mailAt_eq (x : Cluster) (i : Nat) : mailAt x i = if place x (x.mails.getD i zMail).to_ = false then 3 else mailFault (x.nodes.getD (x.mails.getD i zMail).to_.toNat zNode) (x.mails.getD i zMail) := rfl
theorem winAt_eq (x : Cluster) (i : Nat) : winAt x i = if inR (x.wins.getD i zWon).term 1 100000 = false ∨ place x (x.wins.getD i zWon).node = false then 3 else 0 := rfl
theorem sealAt_eq (x : Cluster) (i : Nat) : sealAt x i = if inR (x.seals.getD i zSeal).term 1 100000 = false then 3 else entryFault (x.seals.getD i zSeal).entry := rfl
noncomputable def clusterFault (x : Cluster) : Int :=
  if x.nodes.length < 1 ∨ 5 < x.nodes.length ∨ 80 < x.mails.length then 2 else
  if scan (nodeAt x) x.nodes.length 0 ≠ 0 then scan (nodeAt x) x.nodes.length 0 else
  if scan (mailAt x) x.mails.length 0 ≠ 0 then scan (mailAt x) x.mails.length 0 else
  if 400 < x.wins.length ∨ 40 < x.seals.length then 2 else
  if scan (winAt x) x.wins.length 0 ≠ 0 then scan (winAt x) x.wins.length 0 else
  scan (sealAt x) x.seals.length 0
theorem place_iff {x : Cluster} {n : Int} : place x n = true ↔ 0 ≤ n ∧ n < x.nodes.length := by
  unfold place inR
  simp
  omega
theorem nodes_ok {x : Cluster} (h : scan (nodeAt x) x.nodes.length 0 = 0) {i : Nat} (hi : i < x.nodes.length) : nodeFault (x.nodes.getD i zNode) = 0 ∧ (x.nodes.getD i zNode).id = i ∧ (x.nodes.getD i zNode).peers = x.nodes.length := by
  have := scan_zero.1 h i hi
  rw [nodeAt_eq] at this
  grind
noncomputable def mailGuard (x : Cluster) (p : Int) : Int := if clusterFault x ≠ 0 then clusterFault x else if inR p 0 ((x.mails.length : Int) - 1) = false then 3 else 0
def bad (c : Int) : ClusterResult := ⟨c, zCluster⟩
noncomputable def copyMail (x : Cluster) (p : Int) : ClusterResult :=
  if mailGuard x p ≠ 0 then bad (mailGuard x p) else
  if 80 ≤ x.mails.length then bad 2 else ⟨0, { x with mails := x.mails ++ [x.mails.getD p.toNat zMail] }⟩
theorem guard_iff {x : Cluster} {p : Int} (h : mailGuard x p = 0) : clusterFault x = 0 ∧ ∃ n : Nat, p = n ∧ n < x.mails.length := by
  unfold mailGuard inR at h
  split at h
  · rename_i h0; exact absurd h h0
  · rename_i h0
    split at h
    · cases h
    · rename_i h1
      simp at h1
      exact ⟨by simpa using h0, p.toNat, by omega, by omega⟩
theorem drop_take_one {α : Type} (z : α) {xs : List α} {n : Nat} (h : n < xs.length) : (xs.take (n + 1)).drop n = [xs.getD n z] := by
  rw [take_snoc z h, List.drop_append_of_le_length (by simp; omega), List.drop_of_length_le (by simp; omega)]
  rfl
def resC (c : Int) (x : Cluster) : ClusterResult := if c ≠ 0 then bad c else ⟨0, x⟩
theorem take_snoc_map {α : Type} (f : α → List T) (xs : List α) (r : List T) : List.take (xs.length + 1) (xs.map f ++ [r]) = xs.map f ++ [r] := List.take_of_length_le (by simp)
theorem take_app_map {α : Type} (f : α → List T) (xs ys : List α) : List.take (xs.length + ys.length) ((xs ++ ys).map f) = (xs ++ ys).map f := List.take_of_length_le (by simp)
attribute [go_sem] take_snoc_map take_app_map
def rowV (m : Mail) (v : Value) : List T := [.int .i64 m.kind, .int .i64 m.from_, .int .i64 m.to_, .int .i64 m.term, .int .i64 m.index, .int .i64 m.last, .int .i64 m.commit, .bool m.ok, .val v]
theorem take_set_map {α : Type} (f : α → List T) (xs : List α) (n : Nat) (r : List T) : List.take xs.length ((xs.map f).set n r) = (xs.map f).set n r := List.take_of_length_le (by simp)
attribute [go_sem] take_set_map
theorem noShR_set : ∀ {l : List (List T)} {n : Nat} {r : List T}, T.noShR l → T.noShL r → T.noShR (l.set n r)
  | [], _, _, _, _ => by simp [T.noShR]
  | a :: l, 0, r, h, hr => by simp only [List.set_cons_zero, T.noShR] at h ⊢; exact ⟨hr, h.2⟩
  | a :: l, n + 1, r, h, hr => by simp only [List.set_cons_succ, T.noShR] at h ⊢; exact ⟨h.1, noShR_set h.2 hr⟩
theorem noShR_append : ∀ (l l2 : List (List T)), T.noShR (l ++ l2) = (T.noShR l ∧ T.noShR l2)
  | [], l2 => by simp [T.noShR]
  | a :: l, l2 => by simp only [List.cons_append, T.noShR, noShR_append l l2, and_assoc]
theorem getD_set_app {α : Type} {l : List α} {i : Nat} (h : i < l.length) (r : α) (l2 : List α) (d : α) : (l.set i r ++ l2).getD i d = r := by
  rw [List.getD_eq_getElem?_getD, List.getElem?_append_left (by simpa using h), List.getElem?_set_self h]
  rfl
theorem set_app {α : Type} {l : List α} {i : Nat} (h : i < l.length) (r r2 : α) (l2 : List α) : (l.set i r ++ l2).set i r2 = l.set i r2 ++ l2 := by
  rw [List.set_append_left _ _ (by simpa using h), List.set_set]
theorem set_getD_map {α : Type} (f : α → List T) (z : α) {xs : List α} {i : Nat} (h : i < xs.length) : (xs.map f).set i (f (xs.getD i z)) = xs.map f := by
  rw [List.getD_eq_getElem?_getD, List.getElem?_eq_getElem h]
  apply List.ext_getElem
  · simp
  · intro j h1 h2
    rw [List.getElem_set]
    split
    · rename_i e; subst e; simp
    · rfl
attribute [go_sem] noShR_append
theorem mails_le {x : Cluster} (h : clusterFault x = 0) : x.mails.length ≤ 80 := by
  unfold clusterFault at h
  grind
theorem snoc_map {α : Type} (f : α → List T) (xs : List α) (y : α) : xs.map f ++ [f y] = (xs ++ [y]).map f := by simp
theorem limC_mono {b c : Nat} (h : b ≤ c) {x : Cluster} (hx : limC b x) : limC c x := by
  unfold limC limN limM at *
  obtain ⟨⟨a1, a2⟩, ⟨b1, b2⟩, c1, d1⟩ := hx
  exact ⟨⟨by omega, fun y hy => by have := a2 y hy; omega⟩, ⟨by omega, fun y hy => by have := b2 y hy; omega⟩, by omega, by omega⟩
theorem mkE_bd (xs : List Entry) (k : Int) : mkK sE xs k ≤ k + 9 * xs.length := mkK_bd (by omega) fun x _ k => by unfold sE; omega
theorem mkI_bd (xs : List Int) (k : Int) : mkK sI xs k ≤ k + 1 * xs.length := mkK_bd (by omega) fun x _ k => by unfold sI; omega
theorem sN_bd {x : Node} (h : limN 2097152 x) (k : Int) : sN x k ≤ k + 30000000 := by
  obtain ⟨h1, h2, h3, h4⟩ := h
  have e1 := mkE_bd x.log (k + 1 + 1 + 1 + 1)
  have e2 := mkI_bd x.votes (kN4 x k + 1 + 1)
  have e3 := mkI_bd x.next (mkK sI x.votes (kN4 x k + 1 + 1))
  have e4 := mkI_bd x.match_ (mkK sI x.next (mkK sI x.votes (kN4 x k + 1 + 1)))
  unfold sN
  unfold kN4 at *
  omega
theorem sM_bd {x : Mail} (h : limM 2097152 x) (k : Int) : sM x k ≤ k + 30000000 := by
  unfold limM at h
  have e1 := mkE_bd x.entries (k + 1 + 1 + 1 + 1 + 1 + 1 + 1 + 1)
  unfold sM
  omega
theorem sCl_bd {x : Cluster} (h : limC 2097152 x) : sCl x 1 ≤ 9000000000000000000 := by
  obtain ⟨⟨a1, a2⟩, ⟨b1, b2⟩, c1, d1⟩ := h
  have e1 := mkK_bd (s := sN) (c := 30000000) (by omega) (xs := x.nodes) (k := 1) fun y hy k => sN_bd (a2 y hy) k
  have e2 := mkK_bd (s := sM) (c := 30000000) (by omega) (xs := x.mails) (k := mkK sN x.nodes 1) fun y hy k => sM_bd (b2 y hy) k
  have e3 := mkK_bd (s := sW) (c := 2) (by omega) (xs := x.wins) (k := mkK sM x.mails (mkK sN x.nodes 1)) fun y hy k => by unfold sW; omega
  have e4 := mkK_bd (s := sS) (c := 10) (by omega) (xs := x.seals) (k := mkK sW x.wins (mkK sM x.mails (mkK sN x.nodes 1))) fun y hy k => by unfold sS; omega
  unfold sCl
  omega
theorem lim_bad {c : Int} : limC 2097152 (bad c).cluster := by
  unfold bad zCluster limC
  simp
theorem copyMail_lim {x : Cluster} (h : limC 1048576 x) (p : Int) : limC 2097152 (copyMail x p).cluster := by
  unfold copyMail
  split
  · exact lim_bad
  · split
    · exact lim_bad
    · obtain ⟨⟨a1, a2⟩, ⟨b1, b2⟩, c1, d1⟩ := limC_mono (c := 2097152) (by omega) h
      obtain ⟨_, ⟨b3, _⟩, _, _⟩ := h
      refine ⟨⟨a1, a2⟩, ⟨by simp; omega, fun y hy => ?_⟩, c1, d1⟩
      rcases List.mem_append.1 hy with hy | hy
      · exact b2 y hy
      · simp only [List.mem_singleton] at hy
        subst hy
        by_cases hl : p.toNat < x.mails.length
        · exact b2 _ (getD_mem zMail hl)
        · rw [List.getD_eq_getElem?_getD, List.getElem?_eq_none (by omega)]
          unfold limM
          simp [zMail]
def badN (c : Int) : NodeResult := ⟨c, zNode, []⟩
noncomputable def nodeGuard (x : Cluster) (p : Int) : Int := if clusterFault x ≠ 0 then clusterFault x else if place x p = false then 3 else 0
noncomputable def crashNode (x : Node) : NodeResult := if nodeFault x ≠ 0 then badN (nodeFault x) else ⟨0, ⟨x.id, x.peers, x.term, x.voted, x.log, 0, 0, [], [], []⟩, []⟩
def wonBy (x : Cluster) (i : Nat) (r : Node) : Bool := decide (r.role = 2) && (decide ((x.nodes.getD i zNode).role ≠ 2) || decide ((x.nodes.getD i zNode).term ≠ r.term))
def doWins (x : Cluster) (i : Nat) (r : Node) : List Won := if wonBy x i r then x.wins ++ [⟨r.term, i⟩] else x.wins
def sealsTo (s : List Seal) (r : Node) (k : Nat) : List Seal := s ++ ((r.log.take k).drop s.length).map (fun e => ⟨r.term, e⟩)
def doOk (x : Cluster) (i : Nat) (r : NodeResult) : Bool := decide (r.code = 0) && decide (x.mails.length + r.send.length ≤ 80) && (!wonBy x i r.node || decide (x.wins.length < 400))
def doC (x : Cluster) (i : Nat) (r : NodeResult) : Cluster := ⟨x.nodes.set i r.node, x.mails ++ r.send, doWins x i r.node, sealsTo x.seals r.node r.node.commit.toNat⟩
def doR (x : Cluster) (i : Nat) (r : NodeResult) : ClusterResult := if doOk x i r then ⟨0, doC x i r⟩ else bad (if r.code ≠ 0 then r.code else 2)
theorem sealsTo_self (s : List Seal) (r : Node) {k : Nat} (h : k ≤ s.length) : sealsTo s r k = s := by
  unfold sealsTo
  rw [List.drop_of_length_le (by simp; omega)]
  simp
theorem sealsTo_succ (s : List Seal) (r : Node) {k : Nat} (h : s.length ≤ k) (hk : k < r.log.length) : sealsTo s r (k + 1) = sealsTo s r k ++ [⟨r.term, r.log.getD k zEntry⟩] := by
  unfold sealsTo
  rw [take_snoc zEntry hk, List.drop_append_of_le_length (by simp; omega), List.map_append, List.append_assoc]
  rfl
theorem sealsTo_len (s : List Seal) (r : Node) {k : Nat} (h : s.length ≤ k) (hk : k ≤ r.log.length) : (sealsTo s r k).length = k := by
  unfold sealsTo
  simp
  omega
theorem guardN_iff {x : Cluster} {p : Int} (h : nodeGuard x p = 0) : clusterFault x = 0 ∧ ∃ n : Nat, p = n ∧ n < x.nodes.length := by
  unfold nodeGuard at h
  split at h
  · rename_i h0; exact absurd h h0
  · rename_i h0
    split at h
    · cases h
    · rename_i h1
      have h2 := place_iff.1 (by simpa using h1)
      exact ⟨by simpa using h0, p.toNat, by omega, by omega⟩
theorem cl_nodes {x : Cluster} (h : clusterFault x = 0) {i : Nat} (hi : i < x.nodes.length) : nodeFault (x.nodes.getD i zNode) = 0 ∧ (x.nodes.getD i zNode).id = i ∧ (x.nodes.getD i zNode).peers = x.nodes.length := by
  refine nodes_ok ?_ hi
  unfold clusterFault at h
  grind
theorem cl_wins {x : Cluster} (h : clusterFault x = 0) : x.wins.length ≤ 400 ∧ x.seals.length ≤ 40 := by
  unfold clusterFault at h
  grind
def limR (b : Nat) (r : NodeResult) : Prop := limN b r.node ∧ r.send.length ≤ b ∧ ∀ m ∈ r.send, limM b m
theorem sealsTo_len' (s : List Seal) (r : Node) {k : Nat} (h : s.length ≤ k) (hk : k ≤ max s.length r.log.length) : (sealsTo s r k).length = k := by
  unfold sealsTo
  simp
  omega
theorem sealsTo_end (s : List Seal) (r : Node) {k : Nat} (h : s.length ≤ k) (hk : k ≤ max s.length r.commit.toNat) (hc : r.commit ≤ k) (hl : r.commit ≤ r.log.length) : sealsTo s r k = sealsTo s r r.commit.toNat := by
  rcases Nat.lt_or_ge s.length k with h1 | h1
  · rw [show k = r.commit.toNat by omega]
  · rw [sealsTo_self s r h1, sealsTo_self s r (by omega)]
noncomputable def atNode (x : Cluster) (p : Int) (r : NodeResult) : ClusterResult := if nodeGuard x p ≠ 0 then bad (nodeGuard x p) else doR x p.toNat r
theorem lim_zNode {b : Nat} : limN b zNode := by unfold limN; simp [zNode]
theorem lim_badN {b : Nat} {c : Int} : limR b (badN c) := ⟨lim_zNode, by simp [badN], by simp [badN]⟩
theorem crash_lim {b : Nat} {x : Node} (h : limN b x) : limR b (crashNode x) := by
  unfold crashNode
  split
  · exact lim_badN
  · refine ⟨⟨h.1, by simp, by simp, by simp⟩, by simp, by simp⟩
theorem crash_commit (x : Node) : (crashNode x).node.commit ≤ (crashNode x).node.log.length := by
  unfold crashNode
  split <;> simp [badN, zNode]
attribute [go_sem] T.own T.ownL
theorem lim_getD {b : Nat} {xs : List Node} (h : ∀ y ∈ xs, limN b y) (k : Nat) : limN b (xs.getD k zNode) := by
  by_cases hk : k < xs.length
  · exact h _ (getD_mem zNode hk)
  · rw [List.getD_eq_getElem?_getD, List.getElem?_eq_none (by omega)]
    exact lim_zNode
theorem crash_id {x : Node} (h : (crashNode x).code = 0) : (crashNode x).node.id = x.id := by
  unfold crashNode at *
  split at h
  · rename_i h0; exact absurd h h0
  · rename_i h0; rw [if_neg h0]
theorem atNode_lim {x : Cluster} (h : limC 1048576 x) (p : Int) {r : NodeResult} (hr : limR 1048576 r) : limC 2097152 (atNode x p r).cluster := by
  unfold atNode
  split
  · exact lim_bad
  · unfold doR
    split
    · obtain ⟨⟨a1, a2⟩, ⟨b1, b2⟩, c1, d1⟩ := h
      obtain ⟨⟨e1, e2, e3, e4⟩, f1, f2⟩ := hr
      have hm : limC 2097152 x := limC_mono (by omega) ⟨⟨a1, a2⟩, ⟨b1, b2⟩, c1, d1⟩
      refine ⟨⟨by simp [doC]; omega, fun y hy => ?_⟩, ⟨by simp [doC]; omega, fun y hy => ?_⟩, ?_, ?_⟩
      · rcases List.mem_or_eq_of_mem_set hy with hy | rfl
        · exact hm.1.2 y hy
        · exact ⟨by omega, by omega, by omega, by omega⟩
      · rcases List.mem_append.1 hy with hy | hy
        · exact hm.2.1.2 y hy
        · have := f2 y hy
          unfold limM at *
          omega
      · show (doWins _ _ _).length ≤ _
        unfold doWins
        split
        · simp; omega
        · omega
      · show (sealsTo _ _ _).length ≤ _
        unfold sealsTo
        simp
        omega
    · exact lim_bad
def cntGe (l : List Int) (i : Int) : Nat := l.countP fun k => decide (i ≤ k)
def quor (x : Node) (c : Int) : Bool := decide (x.peers < 2 * c)
def agOk (x : Node) (i : Nat) : Bool := quor x (cntGe x.match_ i) && decide ((x.log.getD (i - 1) zEntry).term = x.term)
def agN (x : Node) (c : Nat) : Nat → Nat
  | 0 => c
  | n + 1 => if n + 1 ≤ c then c else if agOk x (n + 1) then n + 1 else agN x c n
def agI (x : Node) : Int := agN x x.commit.toNat x.log.length
def agreed (x : Node) : Node := { x with commit := agI x }
theorem agN_le (x : Node) (c : Nat) : ∀ {n : Nat}, n ≤ c → agN x c n = c
  | 0, _ => rfl
  | n + 1, h => by rw [agN, if_pos h]
theorem agN_ok (x : Node) {c n : Nat} (h : c < n) (ho : agOk x n = true) : agN x c n = n := by
  obtain ⟨m, rfl⟩ : ∃ m, n = m + 1 := ⟨n - 1, by omega⟩
  rw [agN, if_neg (by omega), if_pos ho]
theorem agN_no (x : Node) {c n : Nat} (h : c < n) (ho : agOk x n = false) : agN x c n = agN x c (n - 1) := by
  obtain ⟨m, rfl⟩ : ∃ m, n = m + 1 := ⟨n - 1, by omega⟩
  rw [agN, if_neg (by omega), if_neg (by rw [ho]; simp)]
  rfl
theorem agN_bd (x : Node) {c : Nat} : ∀ {n : Nat}, c ≤ n → c ≤ agN x c n ∧ agN x c n ≤ n
  | 0, h => ⟨Nat.le_refl _, h⟩
  | n + 1, h => by
    rw [agN]
    split
    · omega
    · split
      · omega
      · have := agN_bd x (c := c) (n := n) (by omega); omega
theorem cntGe_succ {l : List Int} {i : Int} {j : Nat} (h : j < l.length) : cntGe (l.take (j + 1)) i = cntGe (l.take j) i + (if i ≤ l.getD j zI_i64 then 1 else 0) := by
  unfold cntGe
  rw [take_snoc zI_i64 h, List.countP_append]
  simp [List.countP_cons]
theorem cntGe_le (l : List Int) (i : Int) : cntGe l i ≤ l.length := List.countP_le_length
theorem cntGe_take_le (l : List Int) (i : Int) (j : Nat) : cntGe (l.take j) i ≤ l.length := Nat.le_trans (cntGe_le _ _) (by simp; omega)
theorem cntGe_all {l : List Int} {i : Int} : cntGe (l.take l.length) i = cntGe l i := by rw [List.take_length]
theorem node_ok {x : Node} (h : nodeFault x = 0) : (1 ≤ x.peers ∧ x.peers ≤ 5 ∧ 0 ≤ x.id ∧ x.id < x.peers ∧ 0 ≤ x.term ∧ x.term ≤ 100000 ∧ 0 ≤ x.role ∧ x.role ≤ 2) ∧ logFault x.log = 0 ∧ (lastE x.log).term ≤ x.term ∧ (0 ≤ x.commit ∧ x.commit ≤ x.log.length) ∧ listsOk x ∧ rangeOk x.next 1 (x.log.length + 1) ∧ rangeOk x.match_ 0 x.log.length ∧ (x.role ≠ 0 → x.voted = x.id ∧ x.term ≠ 0) ∧ (x.voted = -1 ∨ isId x x.voted = true) := by
  unfold nodeFault at h
  split at h
  · cases h
  rename_i g1
  split at h
  · rename_i g2; exact absurd h g2
  rename_i g2
  split at h
  · cases h
  rename_i g3
  split at h
  · cases h
  rename_i g4
  split at h
  · cases h
  rename_i g5
  split at h
  · cases h
  rename_i g6
  split at h
  · cases h
  rename_i g7
  have g1 : nodeRange x = true := by simpa using g1
  unfold nodeRange isId inR at g1
  simp only [Bool.and_eq_true, decide_eq_true_eq, Bool.or_eq_true] at g1
  obtain ⟨⟨⟨⟨a1, a2⟩, a3⟩, a4⟩, a5⟩ := g1
  rw [wrap_small (by omega) (by omega)] at a2
  have g4 : inR x.commit 0 x.log.length = true := by simpa using g4
  unfold inR at g4
  simp only [Bool.and_eq_true, decide_eq_true_eq] at g4
  refine ⟨⟨a1.1, a1.2, a2.1, by omega, a3.1, a3.2, a5.1, a5.2⟩, by simpa using g2, by omega, g4, by simpa using g5, ?_, ?_, ?_, ?_⟩
  · exact Classical.byContradiction fun hh => g6 (.inl hh)
  · exact Classical.byContradiction fun hh => g6 (.inr hh)
  · intro hr
    constructor
    · exact Classical.byContradiction fun hh => g7 ⟨hr, .inl hh⟩
    · intro hh; exact g7 ⟨hr, .inr hh⟩
  · rcases a4 with a4 | a4
    · exact .inl a4
    · refine .inr ?_
      unfold isId inR
      simp [a4.1, a4.2]
theorem log_le {l : List Entry} (h : logFault l = 0) : l.length ≤ 40 := by
  unfold logFault at h
  split at h
  · cases h
  · omega
theorem node_lead {x : Node} (h : nodeFault x = 0) (hr : x.role = 2) : x.next.length = x.peers.toNat ∧ x.match_.length = x.peers.toNat := by
  have := (node_ok h).2.2.2.2.1
  have hp := (node_ok h).1
  unfold listsOk due at this
  rw [if_pos hr] at this
  omega
theorem set_map_I (l : List Int) (n : Nat) (v : Int) : (l.map eI_i64).set n [.int .i64 v] = (l.set n v).map eI_i64 := by simp [List.map_set, eI_i64]
theorem app_map_E (l : List Entry) (e : Entry) : l.map eEntry ++ [[.int .i64 e.term, .int .i64 e.client, .int .i64 e.seq, .int .i64 e.cmd.kind, .int .i64 e.cmd.expect, .int .i64 e.cmd.name, .int .i64 e.cmd.addr, .int .i64 e.cmd.number, .int .i64 e.cmd.proto]] = (l ++ [e]).map eEntry := by simp [eEntry]
def asked (x : Node) (e : Entry) : Node := { x with log := x.log ++ [e], next := x.next.set x.id.toNat (x.log.length + 1 + 1), match_ := x.match_.set x.id.toNat (x.log.length + 1) }
noncomputable def askNode (x : Node) (e : Entry) : NodeResult :=
  if nodeFault x ≠ 0 then badN (nodeFault x) else if x.role ≠ 2 then badN 10 else if entryFault e ≠ 0 then badN (entryFault e) else if e.term ≠ x.term then badN 1 else if 40 ≤ x.log.length then badN 2 else ⟨0, agreed (asked x e), []⟩
noncomputable def leadF (x : Node) : Int := if nodeFault x ≠ 0 then nodeFault x else if x.role ≠ 2 then 10 else 0
theorem limN_mono {b c : Nat} (h : b ≤ c) {x : Node} (hx : limN b x) : limN c x := by
  unfold limN at *
  omega
theorem take_set_len {α : Type} (l : List α) (n : Nat) (v : α) : List.take l.length (l.set n v) = l.set n v := List.take_of_length_le (by simp)
attribute [go_sem] take_set_len
theorem leadF_ok {x : Node} (h : leadF x = 0) : nodeFault x = 0 ∧ x.role = 2 := by
  unfold leadF at h
  grind
theorem agI_bd {x : Node} (h0 : 0 ≤ x.commit) (h1 : x.commit ≤ x.log.length) : x.commit ≤ agI x ∧ agI x ≤ x.log.length := by
  have := agN_bd x (c := x.commit.toNat) (n := x.log.length) (by omega)
  unfold agI
  omega
theorem ask_lim {b : Nat} (hb : 41 ≤ b) {x : Node} (h : limN b x) (e : Entry) : limR b (askNode x e) := by
  unfold askNode
  split
  · exact lim_badN
  · rename_i h0
    have h0 : nodeFault x = 0 := by simpa using h0
    have hl := log_le (node_ok h0).2.1
    repeat' split
    all_goals first | exact lim_badN | exact ⟨⟨by simp [agreed, asked]; omega, by simpa [agreed, asked] using h.2.1, by simpa [agreed, asked] using h.2.2.1, by simpa [agreed, asked] using h.2.2.2⟩, by simp, by simp⟩
theorem ask_commit (x : Node) (e : Entry) : (askNode x e).node.commit ≤ (askNode x e).node.log.length := by
  unfold askNode
  split
  · simp [badN, zNode]
  · rename_i h0
    have h0 : nodeFault x = 0 := by simpa using h0
    obtain ⟨a, b⟩ := (node_ok h0).2.2.2.1
    repeat' split
    all_goals first | (simp [badN, zNode]; done) | exact (agI_bd (x := asked x e) a (by simp [asked]; omega)).2
theorem ask_id {x : Node} {e : Entry} (h : (askNode x e).code = 0) : (askNode x e).node.id = x.id := by
  unfold askNode at *
  grind [badN, agreed, asked]
def spreadM (x : Node) (i k : Nat) : Mail := ⟨3, x.id, i, x.term, k, (lastE (x.log.take k)).term, x.commit, false, (x.log.take (min x.log.length (k + 4))).drop k⟩
def othersTo (f : Nat → Mail) (id : Int) (n : Nat) : List Mail := ((List.range n).filter fun i : Nat => !decide ((i : Int) = id)).map f
theorem othersTo_succ (f : Nat → Mail) {id : Int} {n : Nat} (h : (n : Int) ≠ id) : othersTo f id (n + 1) = othersTo f id n ++ [f n] := by
  unfold othersTo
  rw [List.range_succ, List.filter_append, List.map_append]
  simp [h]
theorem othersTo_skip (f : Nat → Mail) {id : Int} {n : Nat} (h : (n : Int) = id) : othersTo f id (n + 1) = othersTo f id n := by
  unfold othersTo
  rw [List.range_succ, List.filter_append, List.map_append]
  simp [h]
theorem othersTo_len (f : Nat → Mail) (id : Int) (n : Nat) : (othersTo f id n).length ≤ n := by
  unfold othersTo
  rw [List.length_map]
  exact Nat.le_trans (List.length_filter_le ..) (by simp)
theorem othersTo_mem {f : Nat → Mail} {id : Int} {n : Nat} {m : Mail} (h : m ∈ othersTo f id n) : ∃ i, i < n ∧ m = f i := by
  unfold othersTo at h
  simp at h
  obtain ⟨i, ⟨h1, _⟩, rfl⟩ := h
  exact ⟨i, h1, rfl⟩
def nextK (x : Node) (i : Nat) : Nat := (x.next.getD i zI_i64 - 1).toNat
def spreads (x : Node) (n : Nat) : List Mail := othersTo (fun i => spreadM x i (nextK x i)) x.id n
noncomputable def spreadNode (x : Node) : NodeResult := if leadF x ≠ 0 then badN (leadF x) else ⟨0, x, spreads x x.peers.toNat⟩
theorem lastE_take {l : List Entry} {k : Nat} (h : k ≤ l.length) : lastE (l.take k) = if k = 0 then zEntry else l.getD (k - 1) zEntry := by
  unfold lastE
  rw [List.length_take, Nat.min_eq_left h]
  split
  · rfl
  · rw [List.getD_eq_getElem?_getD, List.getElem?_take, if_pos (by omega), ← List.getD_eq_getElem?_getD]
theorem min_cast (a b : Nat) : (if (a : Int) < (b : Int) then (a : Int) else (b : Int)) = ((min a b : Nat) : Int) := by
  split <;> omega
theorem next_ok {x : Node} (h : nodeFault x = 0) (hr : x.role = 2) {i : Nat} (hi : (i : Int) < x.peers) : i < x.next.length ∧ i < x.match_.length ∧ x.next.getD i zI_i64 = (nextK x i : Int) + 1 ∧ nextK x i ≤ x.log.length ∧ (0 ≤ x.match_.getD i zI_i64 ∧ x.match_.getD i zI_i64 ≤ x.log.length) := by
  obtain ⟨l1, l2⟩ := node_lead h hr
  have h1 := (node_ok h).2.2.2.2.2.1
  have h2 := (node_ok h).2.2.2.2.2.2.1
  have e1 := h1 i (by omega)
  have e2 := h2 i (by omega)
  unfold inR at e1 e2
  simp only [Bool.and_eq_true, decide_eq_true_eq] at e1 e2
  unfold nextK
  exact ⟨by omega, by omega, by omega, by omega, e2⟩
attribute [go_sem] mnxI
theorem take_drop_take {α : Type} (l : List α) (a k : Nat) : List.take (a - k) (List.drop k (List.take a l)) = List.drop k (List.take a l) := List.take_of_length_le (by simp; omega)
attribute [go_sem] take_drop_take
theorem spreads0 (x : Node) : spreads x 0 = [] := rfl
theorem othersTo0 (f : Nat → Mail) (id : Int) : othersTo f id 0 = [] := rfl
attribute [go_sem] spreads0 othersTo0
theorem spreads_len (x : Node) (n : Nat) : (spreads x n).length ≤ n := othersTo_len ..
theorem spreads_succ {x : Node} {n : Nat} (h : (n : Int) ≠ x.id) : spreads x (n + 1) = spreads x n ++ [spreadM x n (nextK x n)] := othersTo_succ _ h
theorem spreads_skip {x : Node} {n : Nat} (h : (n : Int) = x.id) : spreads x (n + 1) = spreads x n := othersTo_skip _ h
theorem leadF_ok0 {x : Node} (h1 : nodeFault x = 0) (h2 : x.role = 2) : leadF x = 0 := by
  unfold leadF; rw [if_neg (by omega), if_neg (by omega)]
theorem spread_lim {b : Nat} (hb : 5 ≤ b) {x : Node} (h : limN b x) : limR b (spreadNode x) := by
  unfold spreadNode
  split
  · exact lim_badN
  · rename_i h0
    obtain ⟨nf, nr⟩ := leadF_ok (x := x) (by omega)
    have hp := (node_ok nf).1
    refine ⟨h, Nat.le_trans (spreads_len _ _) (by omega), fun m hm => ?_⟩
    obtain ⟨i, _, rfl⟩ := othersTo_mem hm
    unfold limM spreadM
    have := h.1
    simp
    omega
theorem spread_commit (x : Node) : (spreadNode x).node.commit ≤ (spreadNode x).node.log.length := by
  unfold spreadNode
  split
  · simp [badN, zNode]
  · exact (node_ok (leadF_ok (x := x) (by omega)).1).2.2.2.1.2
theorem spread_id {x : Node} (h : (spreadNode x).code = 0) : (spreadNode x).node.id = x.id := by
  unfold spreadNode at *
  grind [badN]
attribute [go_sem] isZ bnd
theorem toNat0 : Int.toNat 0 = 0 := rfl
theorem toNat_subN (a b : Nat) : ((a : Int) - (b : Int)).toNat = a - b := by omega
theorem toNat_addN (a b : Nat) : ((a : Int) + (b : Int)).toNat = a + b := by omega
theorem toNat_subNN (a b c : Nat) : ((a : Int) - ((b : Int) + (c : Int))).toNat = a - (b + c) := by omega
theorem toNat_addNN (a b c : Nat) : ((a : Int) + (b : Int) + (c : Int)).toNat = a + b + c := by omega
attribute [go_sem] toNat0 toNat_subN toNat_addN toNat_subNN toNat_addNN Int.sub_zero Int.add_zero Int.zero_add
theorem del_rows {α : Type} (f : α → List T) (xs : List α) {i j : Nat} (hij : i ≤ j) (hj : j ≤ xs.length) (J Z R : List (List T)) : List.take (i + (xs.length - j)) (List.take (i + (xs.length - j)) ((xs.take i ++ xs.drop j).map f ++ J) ++ Z ++ R) = (xs.take i ++ xs.drop j).map f := by
  have hl : ((xs.take i ++ xs.drop j).map f).length = i + (xs.length - j) := by simp; omega
  rw [← hl, List.take_left, List.append_assoc, List.take_left]
theorem del_rowsR (R : List (List T)) {i j : Nat} (hij : i ≤ j) (hj : j ≤ R.length) (J Z Q : List (List T)) : List.take (i + (R.length - j)) (List.take (i + (R.length - j)) (R.take i ++ R.drop j ++ J) ++ Z ++ Q) = R.take i ++ R.drop j := by
  have hl : (R.take i ++ R.drop j).length = i + (R.length - j) := by simp; omega
  rw [← hl, List.take_left, List.append_assoc, List.take_left]
theorem junk_drop {α : Type} (J : List T) (f : α → List T) (xs : List α) (n : Nat) : List.drop (n + 1) (List.replicate n J ++ List.map f (List.drop n xs)) = List.map f (List.drop (n + 1) xs) := by
  rw [List.drop_append, List.drop_of_length_le (by simp), List.nil_append, List.length_replicate, ← List.map_drop, List.drop_drop]
  congr 2
  omega
theorem take_drop_len {α : Type} (xs : List α) (k : Nat) : List.take (xs.length - k) (List.drop k xs) = List.drop k xs := List.take_of_length_le (by simp)
attribute [go_sem] junk_drop take_drop_len
def without (x : Cluster) (n : Nat) : Cluster := { x with mails := x.mails.take n ++ x.mails.drop (n + 1) }
noncomputable def dropMail (x : Cluster) (p : Int) : ClusterResult := if mailGuard x p ≠ 0 then bad (mailGuard x p) else ⟨0, without x p.toNat⟩
theorem set_without {α : Type} (f : α → List T) (xs : List α) (n : Nat) (r : List T) : List.take n ((xs.map f).set n r) ++ List.drop (n + 1) ((xs.map f).set n r) = (xs.take n ++ xs.drop (n + 1)).map f := by
  rw [List.take_set_of_le (Nat.le_refl _), List.drop_set_of_lt (Nat.lt_succ_self _), List.map_append, List.map_take, List.map_drop]
theorem dropMail_lim {x : Cluster} (h : limC 1048576 x) (p : Int) : limC 2097152 (dropMail x p).cluster := by
  unfold dropMail
  split
  · exact lim_bad
  · obtain ⟨⟨a1, a2⟩, ⟨b1, b2⟩, c1, d1⟩ := limC_mono (c := 2097152) (by omega) h
    refine ⟨⟨a1, a2⟩, ⟨by simp [without]; omega, fun y hy => b2 y ?_⟩, c1, d1⟩
    rcases List.mem_append.1 hy with hy | hy
    · exact List.mem_of_mem_take hy
    · exact List.mem_of_mem_drop hy
theorem roRows_Mail (o : Bool) (xs : List Mail) : roRows (xs.map (eMail o)) = xs.map (eMail false) := roRows_map _ _ (fun _ => rfl) xs
theorem toNat_sub1N (a b : Nat) : ((a : Int) - ((b : Int) + 1)).toNat = a - (b + 1) := by omega
attribute [go_sem] roRows_Mail toNat_sub1N
def eClusterM (o : Bool) (x : Cluster) : List T := [.sl o 10 (x.nodes.map (eNode o)), .sl o 9 (x.mails.map (eMail false)), .sl o 2 (x.wins.map eWon), .sl o 10 (x.seals.map eSeal)]
attribute [go_sem] eClusterM
attribute [go_sem] false_and and_false
def followed (x : Node) : Node := { x with role := 0, votes := [], next := [], match_ := [] }
def led (x : Node) : Node := { x with role := 2, votes := [], next := List.replicate x.peers.toNat ((x.log.length : Int) + 1), match_ := (List.replicate x.peers.toNat 0).set x.id.toNat x.log.length }
def leadOf (x : Node) : Node := agreed (led x)
def asking (x : Node) : Node := { x with term := x.term + 1, voted := x.id, role := 1, votes := [x.id] }
def voteM (x : Node) (i : Nat) : Mail := ⟨1, x.id, i, x.term + 1, x.log.length, (lastE x.log).term, 0, false, []⟩
def votesTo (x : Node) (n : Nat) : List Mail := othersTo (voteM x) x.id n
noncomputable def timeoutNode (x : Node) : NodeResult :=
  if nodeFault x ≠ 0 then badN (nodeFault x) else if x.role = 2 then badN 10 else if x.term = 100000 then badN 3 else
  ⟨0, if quor x 1 then leadOf (asking x) else asking x, votesTo x x.peers.toNat⟩
theorem votes0 (x : Node) : votesTo x 0 = [] := rfl
attribute [go_sem] votes0
theorem votes_len (x : Node) (n : Nat) : (votesTo x n).length ≤ n := othersTo_len ..
theorem votes_succ {x : Node} {n : Nat} (h : (n : Int) ≠ x.id) : votesTo x (n + 1) = votesTo x n ++ [voteM x n] := othersTo_succ _ h
theorem votes_skip {x : Node} {n : Nat} (h : (n : Int) = x.id) : votesTo x (n + 1) = votesTo x n := othersTo_skip _ h
theorem cntGe_led {m : Nat} {j : Nat} {v i : Int} (hi : 0 < i) : cntGe ((List.replicate m 0).set j v) i ≤ 1 := by
  unfold cntGe
  induction m generalizing j with
  | zero => simp
  | succ m ih =>
    rw [List.replicate_succ]
    cases j with
    | zero => rw [List.set_cons_zero, List.countP_cons, List.countP_replicate]; split <;> split <;> simp_all <;> omega
    | succ j => rw [List.set_cons_succ, List.countP_cons]; have := ih (j := j); split <;> simp_all <;> omega
theorem agreed_led {x : Node} (h : quor x 1 = false) (h0 : 0 ≤ x.commit) (h1 : x.commit ≤ x.log.length) : leadOf x = led x := by
  have hag : ∀ n : Nat, x.commit.toNat ≤ n → agN (led x) x.commit.toNat n = x.commit.toNat := by
    intro n
    induction n with
    | zero => intro h; rw [agN]
    | succ n ih =>
      intro h'
      rw [agN]
      split
      · rfl
      · rw [if_neg, ih (by omega)]
        unfold agOk
        have hc : cntGe (led x).match_ ((n + 1 : Nat) : Int) ≤ 1 := cntGe_led (by omega)
        have : quor (led x) (cntGe (led x).match_ ((n + 1 : Nat) : Int)) = false := by
          generalize cntGe (led x).match_ ((n + 1 : Nat) : Int) = c at hc ⊢
          unfold quor at h ⊢
          rw [show (led x).peers = x.peers from rfl]
          simp only [decide_eq_false_iff_not] at h ⊢
          omega
        rw [this]
        simp
  unfold leadOf agreed agI
  rw [show (led x).commit = x.commit from rfl, hag _ (by simp [led]; omega)]
  have : ((x.commit.toNat : Nat) : Int) = x.commit := by omega
  rw [this]
  rfl
theorem timeout_lim {b : Nat} (hb : 5 ≤ b) {x : Node} (h : limN b x) : limR b (timeoutNode x) := by
  unfold timeoutNode
  split
  · exact lim_badN
  split
  · exact lim_badN
  split
  · exact lim_badN
  rename_i h0 _ _
  have hp := (node_ok (x := x) (by omega)).1
  refine ⟨?_, Nat.le_trans (votes_len _ _) (by omega), fun m hm => ?_⟩
  · have := h.1
    split
    · refine ⟨by simpa [leadOf, agreed, led, asking] using h.1, by simp [leadOf, agreed, led, asking], ?_, ?_⟩ <;> simp [leadOf, agreed, led, asking] <;> omega
    · refine ⟨h.1, by simp [asking]; omega, h.2.2.1, h.2.2.2⟩
  · obtain ⟨i, _, rfl⟩ := othersTo_mem hm
    simp [limM, voteM]
theorem timeout_commit (x : Node) : (timeoutNode x).node.commit ≤ (timeoutNode x).node.log.length := by
  unfold timeoutNode
  split
  · simp [badN, zNode]
  split
  · simp [badN, zNode]
  split
  · simp [badN, zNode]
  rename_i h0 _ _
  have hc := (node_ok (x := x) (by omega)).2.2.2.1
  split
  · have := agN_bd (led (asking x)) (c := x.commit.toNat) (n := x.log.length) (by omega)
    show agI (led (asking x)) ≤ _
    unfold agI
    simp only [leadOf, agreed, led, asking] at this ⊢
    omega
  · exact hc.2
theorem timeout_id {x : Node} (h : (timeoutNode x).code = 0) : (timeoutNode x).node.id = x.id := by
  unfold timeoutNode at *
  grind [badN, leadOf, agreed, led, asking]
def repV (v : Int) (k n : Nat) : List (List T) := List.replicate k [.int .i64 v] ++ List.replicate (n - k) [.int .i64 0]
def repVer (k : Nat) : Nat := if k ≤ 2 then k + 1 else if k ≤ 4 then 4 else 5
theorem repV_len {v : Int} {k n : Nat} (h : k ≤ n) : (repV v k n).length = n := by simp [repV]; omega
theorem repV_step {v : Int} {k n : Nat} (h : k ≤ n) : (repV v k n).take k ++ ((repV v k n).take k).take (min (n - k) k) ++ (repV v k n).drop (k + min (n - k) k) = repV v (k + min (n - k) k) n := by
  unfold repV
  rw [List.take_left' (by simp), List.take_replicate, List.drop_append, List.drop_replicate, List.drop_replicate, List.length_replicate, show k - (k + min (n - k) k) = 0 by omega, List.replicate_zero, List.nil_append, List.replicate_append_replicate]
  congr 2 <;> omega
theorem repV_all {v : Int} {n : Nat} : repV v n n = (List.replicate n v).map eI_i64 := by simp [repV, eI_i64]
theorem cpRows_repV {d : Dep} {v : Int} {k n : Nat} (m : Nat) : cpRows d ((repV v k n).take m) = True := by
  have : ∀ r ∈ (repV v k n).take m, ∃ u : Int, r = [.int .i64 u] := by
    intro r hr
    have := List.mem_of_mem_take hr
    simp [repV] at this
    rcases this with ⟨_, rfl⟩ | ⟨_, rfl⟩ <;> exact ⟨_, rfl⟩
  apply eq_true
  unfold cpRows
  cases d <;> (intro r hr t ht; obtain ⟨u, rfl⟩ := this r hr; simp at ht; subst ht; simp [T.solid, T.flat])
theorem ro1 (v : Int) : roRows [[T.int .i64 v]] = [[T.int .i64 v]] := rfl
theorem repV_0 {v : Int} {n : Nat} (h : 1 ≤ n) : List.take 1 [[T.int .i64 v]] ++ List.drop 1 (List.replicate n [T.int .i64 0]) = repV v 1 n := by
  simp [repV]
attribute [go_sem] ro1 cpRows_repV Int.one_mul
theorem rep_I (n : Nat) (v : Int) : List.replicate n [T.int .i64 v] = (List.replicate n v).map eI_i64 := by simp [eI_i64]
theorem take_set_rep {α : Type} (n i : Nat) (a b : α) : List.take n ((List.replicate n a).set i b) = (List.replicate n a).set i b := List.take_of_length_le (by simp)
attribute [go_sem] take_set_rep
theorem rep_snoc {α : Type} (n : Nat) (a : α) : List.replicate n a ++ [a] = a :: List.replicate n a := by rw [← List.replicate_succ', List.replicate_succ]
theorem ins_grow {α : Type} {R V Z D D' J : List α} {i N a b c : Nat} (hi : i ≤ R.length) (hN : N = R.length + V.length) (ha : a = i + V.length) (hb : V.length ≤ b) (hc : c = R.length - i) :
    List.take N (List.take a (List.take i (List.take i R ++ Z) ++ List.take b V ++ D) ++ List.take c (List.drop i (R ++ J)) ++ D') = List.take i R ++ V ++ List.drop i R := by
  rw [List.take_left' (by simp; omega), List.take_of_length_le hb, List.take_left' (by simp; omega), List.drop_append_of_le_length hi, List.take_left' (l₁ := List.drop i R) (by simp; omega), List.take_left' (by simp; omega)]
theorem ins_room {α : Type} {R V D J : List α} {i N a a2 b c : Nat} (hi : i ≤ R.length) (hJ : R.length + V.length ≤ (R ++ J).length) (hN : N = R.length + V.length) (ha : a = i + V.length) (ha2 : a2 = i + V.length) (hb : V.length ≤ b) (hc : c = R.length - i) :
    List.take N (List.take i (List.take a (R ++ J) ++ List.take c (List.drop i (R ++ J)) ++ D) ++ List.take b V ++ List.drop a2 (List.take a (R ++ J) ++ List.take c (List.drop i (R ++ J)) ++ D)) = List.take i R ++ V ++ List.drop i R := by
  have e1 : List.take i (List.take a (R ++ J) ++ List.take c (List.drop i (R ++ J)) ++ D) = List.take i R := by
    rw [List.append_assoc, List.take_append_of_le_length (by simp only [List.length_take]; omega), List.take_take, Nat.min_eq_left (by omega), List.take_append_of_le_length hi]
  have e2 : List.drop a2 (List.take a (R ++ J) ++ List.take c (List.drop i (R ++ J)) ++ D) = List.drop i R ++ D := by
    rw [List.append_assoc, List.drop_left' (by simp only [List.length_take]; omega), List.drop_append_of_le_length hi, List.take_left' (l₁ := List.drop i R) (by simp; omega)]
  rw [e1, e2, List.take_of_length_le hb, ← List.append_assoc, List.take_left' (by simp; omega)]
def lbn (xs : List Int) (v : Int) : Nat := (xs.takeWhile fun x => decide (x < v)).length
theorem lbn_eq : ∀ {xs : List Int} {v : Int} {i : Nat}, i ≤ xs.length → (∀ p, p < i → xs.getD p zI_i64 < v) → (i < xs.length → v ≤ xs.getD i zI_i64) → lbn xs v = i
  | [], v, i, h, _, _ => by simp at h; subst h; rfl
  | x :: xs, v, 0, _, _, h2 => by
    have := h2 (by simp)
    simp at this
    unfold lbn
    rw [List.takeWhile_cons_of_neg (by simp; omega)]
    rfl
  | x :: xs, v, i + 1, h, h1, h2 => by
    have h0 := h1 0 (by omega)
    simp at h0
    have ih := lbn_eq (xs := xs) (v := v) (i := i) (by simpa using h) (fun p hp => by simpa using h1 (p + 1) (by omega)) (fun hi => by simpa using h2 (by simpa using hi))
    unfold lbn at ih ⊢
    rw [List.takeWhile_cons_of_pos (by simpa using h0), List.length_cons, ih]
def hasI (xs : List Int) (v : Int) : Bool := decide (lbn xs v < xs.length) && decide (xs.getD (lbn xs v) zI_i64 = v)
theorem rises_lt {xs : List Int} (h : rises xs) {i : Nat} : ∀ {j : Nat}, i < j → j < xs.length → xs.getD i zI_i64 < xs.getD j zI_i64
  | 0, h1, _ => by omega
  | j + 1, h1, h2 => by
    have e := h (j + 1) (by omega) h2
    simp only [Nat.add_sub_cancel] at e
    by_cases hij : i = j
    · subst hij; exact e
    · have := rises_lt h (i := i) (j := j) (by omega) (by omega)
      omega
theorem lbn_le (xs : List Int) (v : Int) : lbn xs v ≤ xs.length := List.takeWhile_sublist _ |>.length_le
def riseL (xs : List Int) (v : Int) : List Int := if hasI xs v then xs else xs.take (lbn xs v) ++ [v] ++ xs.drop (lbn xs v)
theorem half_nat (a b : Nat) (h : a + b < 9223372036854775808) : ((a : Int) + b).fdiv (2 ^ min (Int.toNat 1) 64) = (((a + b) / 2 : Nat) : Int) := by
  show ((a : Int) + b).fdiv (2 ^ 1) = _
  rw [← Int.natCast_add]
  rw [Int.fdiv_eq_ediv_of_nonneg _ (by omega)]
  omega
theorem wrap_u (n : Nat) (h : n < 18446744073709551616) : IntKind.u64.wrap (n : Int) = n := by
  show ((n : Int) % 18446744073709551616) = n
  omega
def fitsM (log : List Entry) (index term : Int) : Bool := if index = 0 then decide (term = 0) else inR index 1 log.length && decide ((log.getD (IntKind.i64.wrap (index - 1)).toNat zEntry).term = term)
def upM (log : List Entry) (index term : Int) : Bool := decide ((lastE log).term < term) || (decide (term = (lastE log).term) && decide ((log.length : Int) ≤ index))
theorem inR_idx {index : Int} {n : Nat} (hn : n ≤ 2097152) (h : inR index 1 n = true) : 0 ≤ IntKind.i64.wrap (index - 1) ∧ IntKind.i64.wrap (index - 1) < n := by
  unfold inR at h
  simp only [Bool.and_eq_true, decide_eq_true_eq] at h
  rw [wrap_small (by omega) (by omega)]
  omega
theorem tw_range {p : Nat → Bool} {n : Nat} : ∀ {i : Nat}, i ≤ n → (∀ q, q < i → p q = true) → (i < n → p i = false) → ((List.range n).takeWhile p).length = i := by
  intro i hi h1 h2
  have hs : List.range n = List.range i ++ (List.range (n - i)).map (i + ·) := by
    rw [← List.range_add]; congr 1; omega
  rw [hs, List.takeWhile_append_of_pos (by simpa using h1)]
  simp only [List.length_append, List.length_range]
  cases hn : n - i with
  | zero => simp
  | succ k =>
    rw [List.range_succ_eq_map, List.map_cons, List.takeWhile_cons_of_neg (by simpa using h2 (by omega))]
    simp
def eqEn (x y : Entry) : Bool := decide (x.term = y.term) && (decide (x.client = y.client) && (decide (x.seq = y.seq) && (decide (x.cmd.kind = y.cmd.kind) && (decide (x.cmd.expect = y.cmd.expect) && (decide (x.cmd.name = y.cmd.name) && (decide (x.cmd.addr = y.cmd.addr) && (decide (x.cmd.number = y.cmd.number) && decide (x.cmd.proto = y.cmd.proto))))))))
def commonN (a b : List Entry) : Nat := ((List.range (min a.length b.length)).takeWhile fun n => eqEn (a.getD n zEntry) (b.getD n zEntry)).length
def bad7 (log more : List Entry) (i k : Nat) : Bool := decide (log.length ≤ i + k) || !decide ((log.getD (i + k) zEntry).term = (more.getD k zEntry).term)
def take7K (log more : List Entry) (i : Nat) : Nat := ((List.range more.length).takeWhile fun k => !bad7 log more i k).length
def take7 (log more : List Entry) (i : Nat) : List Entry := if take7K log more i < more.length then log.take (i + take7K log more i) ++ more.drop (take7K log more i) else log
theorem take7_at {log more : List Entry} {i k : Nat} (hk : k < more.length) (hlo : ∀ q, q < k → bad7 log more i q = false) (hb : bad7 log more i k = true) : take7 log more i = log.take (i + k) ++ more.drop k := by
  have e : take7K log more i = k := tw_range (by omega) (fun q hq => by simp [hlo q hq]) (fun _ => by simp [hb])
  unfold take7
  rw [e, if_pos hk]
theorem take7_all {log more : List Entry} {i : Nat} (hlo : ∀ q, q < more.length → bad7 log more i q = false) : take7 log more i = log := by
  have e : take7K log more i = more.length := tw_range (Nat.le_refl _) (fun q hq => by simp [hlo q hq]) (fun h => by omega)
  unfold take7
  rw [e, if_neg (by omega)]
theorem take7_len {log more : List Entry} {i : Nat} (hi : i ≤ log.length) : (take7 log more i).length ≤ log.length + more.length := by
  unfold take7
  split
  · simp; omega
  · omega
def takeR (log more : List Entry) (i : Nat) : EntriesResult := if 40 < (take7 log more i).length then ⟨2, []⟩ else ⟨0, take7 log more i⟩
theorem fits_nat {log : List Entry} {index term : Int} (hl : log.length ≤ 2097152) (h : fitsM log index term = true) : ∃ n : Nat, index = n ∧ n ≤ log.length := by
  unfold fitsM at h
  split at h
  · exact ⟨0, by omega, by omega⟩
  · simp only [Bool.and_eq_true] at h
    have := h.1
    unfold inR at this
    simp only [Bool.and_eq_true, decide_eq_true_eq] at this
    exact ⟨index.toNat, by omega, by omega⟩
def upOk (x : Node) (m : Mail) : Bool := decide (m.term = x.term) && (decide (x.voted = -1) || decide (x.voted = m.from_)) && upM x.log m.index m.last
def votedN (x : Node) (m : Mail) : Node := if upOk x m = true then { x with voted := m.from_ } else x
def grantM (x : Node) (m : Mail) : Mail := ⟨2, x.id, m.from_, x.term, 0, 0, 0, upOk x m, []⟩
def riseN (x : Node) (m : Mail) : Node := { x with votes := riseL x.votes m.from_ }
def grantedN (x : Node) (m : Mail) : Node := if (m.ok && decide (m.term = x.term) && decide (x.role = 1)) = true then (if quor (riseN x m) (riseN x m).votes.length then leadOf (riseN x m) else riseN x m) else x
def baseM (x : Node) (m : Mail) : Mail := ⟨4, x.id, m.from_, x.term, 0, 0, 0, false, []⟩
def takenL (x : Node) (m : Mail) : List Entry := take7 x.log m.entries m.index.toNat
def takenC (x : Node) (m : Mail) : Int := if m.term < x.term then 0 else if x.role = 2 then 10 else if fitsM x.log m.index m.last = false then 0 else if 40 < (takenL x m).length then 2 else if (commonN x.log (takenL x m) : Int) < x.commit then 10 else 0
def takenEnd (m : Mail) : Int := m.index + m.entries.length
def takenOk (x : Node) (m : Mail) : Node := { followed x with log := takenL x m, commit := max x.commit (min m.commit (takenEnd m)) }
def takenN (x : Node) (m : Mail) : Node := if m.term < x.term ∨ x.role = 2 then x else if fitsM x.log m.index m.last = false ∨ takenC x m ≠ 0 then followed x else takenOk x m
def takenM (x : Node) (m : Mail) : Mail := if m.term < x.term ∨ x.role = 2 then baseM x m else if fitsM x.log m.index m.last = false then { baseM x m with index := min (m.index - 1) x.log.length } else if takenC x m ≠ 0 then baseM x m else { baseM x m with ok := true, index := takenEnd m }
def toldT (x : Node) (m : Mail) : Int := if x.match_.getD m.from_.toNat zI_i64 < m.index ∧ m.index ≤ x.log.length then m.index else x.match_.getD m.from_.toNat zI_i64
def toldOk (x : Node) (m : Mail) : Node := { x with match_ := x.match_.set m.from_.toNat (toldT x m), next := x.next.set m.from_.toNat (toldT x m + 1) }
def toldNo (x : Node) (m : Mail) : Node := { x with next := x.next.set m.from_.toNat (max (max 1 (min (x.next.getD m.from_.toNat zI_i64 - 1) (m.index + 1))) (x.match_.getD m.from_.toNat zI_i64 + 1)) }
def toldN (x : Node) (m : Mail) : Node := if ¬ m.term = x.term ∨ ¬ x.role = 2 then x else if m.ok = true then agreed (toldOk x m) else toldNo x m
def newer (x : Node) (m : Mail) : Node := if x.term < m.term then followed { x with term := m.term, voted := -1 } else x
def hear (x : Node) (m : Mail) : NodeResult :=
  if m.kind = 1 then ⟨0, votedN (newer x m) m, [grantM (newer x m) m]⟩ else if m.kind = 2 then ⟨0, grantedN (newer x m) m, []⟩ else if m.kind = 3 then (if takenC (newer x m) m ≠ 0 then badN (takenC (newer x m) m) else ⟨0, takenN (newer x m) m, [takenM (newer x m) m]⟩) else ⟨0, toldN (newer x m) m, []⟩
noncomputable def hearMail (x : Node) (m : Mail) : NodeResult := if nodeFault x ≠ 0 then badN (nodeFault x) else if mailFault x m ≠ 0 then badN (mailFault x m) else hear x m
theorem flat_I (xs : List Int) : ∀ r ∈ xs.map eI_i64, ∀ t ∈ r, t.flat = true := by
  intro r hr t ht
  simp only [List.mem_map] at hr
  obtain ⟨x, _, rfl⟩ := hr
  simp [eI_i64] at ht
  subst ht
  rfl
theorem riseL_len (xs : List Int) (v : Int) : (riseL xs v).length ≤ xs.length + 1 := by
  unfold riseL
  split
  · omega
  · simp; omega
theorem riseL_no {xs : List Int} {v : Int} (h : hasI xs v = false) : (riseL xs v).map eI_i64 = List.take (lbn xs v) (xs.map eI_i64) ++ [[T.int .i64 v]] ++ List.drop (lbn xs v) (xs.map eI_i64) := by
  unfold riseL
  rw [h]
  simp [eI_i64]
theorem riseL_has {xs : List Int} {v : Int} (h : hasI xs v = true) : riseL xs v = xs := by
  unfold riseL
  rw [if_pos h]
theorem told_spec (a b c : Int) : (if (if 1 > (if a < b then a else b) then 1 else if a < b then a else b) > c then (if 1 > (if a < b then a else b) then 1 else if a < b then a else b) else c) = max (max 1 (min a b)) c := by
  repeat' split
  all_goals omega
theorem told_impl (a b c : Int) : (if c > (if (if b < a then b else a) > 1 then (if b < a then b else a) else 1) then c else (if (if b < a then b else a) > 1 then (if b < a then b else a) else 1)) = max (max 1 (min a b)) c := by
  repeat' split
  all_goals omega
theorem min_if (a b : Int) : (if a < b then a else b) = min a b := by split <;> omega
theorem max_if (a b : Int) : (if a > b then a else b) = max a b := by split <;> omega
theorem min_fi (a b : Int) : (if b < a then b else a) = min a b := by split <;> omega
theorem max_fi (a b : Int) : (if b > a then b else a) = max a b := by split <;> omega
theorem taken0 {x : Node} {m : Mail} (h : m.term < x.term) : takenN x m = x ∧ takenM x m = baseM x m ∧ takenC x m = 0 := by
  unfold takenN takenM takenC
  simp [h]
theorem taken1 {x : Node} {m : Mail} (h0 : ¬ m.term < x.term) (h : x.role = 2) : takenN x m = x ∧ takenM x m = baseM x m ∧ takenC x m = 10 := by
  unfold takenN takenM takenC
  simp [h0, h]
theorem taken2 {x : Node} {m : Mail} (h0 : ¬ m.term < x.term) (h : ¬ x.role = 2) (h2 : fitsM x.log m.index m.last = false) : takenN x m = followed x ∧ takenM x m = { baseM x m with index := min (m.index - 1) x.log.length } ∧ takenC x m = 0 := by
  unfold takenN takenM takenC
  simp [h0, h, h2]
theorem taken3 {x : Node} {m : Mail} (h0 : ¬ m.term < x.term) (h : ¬ x.role = 2) (h2 : fitsM x.log m.index m.last = true) (h3 : 40 < (takenL x m).length) : takenN x m = followed x ∧ takenM x m = baseM x m ∧ takenC x m = 2 := by
  have hc : takenC x m = 2 := by unfold takenC; simp [h0, h, h2, h3]
  unfold takenN takenM
  simp [h0, h, h2, hc]
theorem taken4 {x : Node} {m : Mail} (h0 : ¬ m.term < x.term) (h : ¬ x.role = 2) (h2 : fitsM x.log m.index m.last = true) (h3 : ¬ 40 < (takenL x m).length) (h4 : (commonN x.log (takenL x m) : Int) < x.commit) : takenN x m = followed x ∧ takenM x m = baseM x m ∧ takenC x m = 10 := by
  have hc : takenC x m = 10 := by unfold takenC; simp [h0, h, h2, h3, h4]
  unfold takenN takenM
  simp [h0, h, h2, hc]
theorem taken5 {x : Node} {m : Mail} (h0 : ¬ m.term < x.term) (h : ¬ x.role = 2) (h2 : fitsM x.log m.index m.last = true) (h3 : ¬ 40 < (takenL x m).length) (h4 : ¬ (commonN x.log (takenL x m) : Int) < x.commit) : takenN x m = takenOk x m ∧ takenM x m = { baseM x m with ok := true, index := takenEnd m } ∧ takenC x m = 0 := by
  have hc : takenC x m = 0 := by unfold takenC; simp [h0, h, h2, h3, h4]
  unfold takenN takenM
  simp [h0, h, h2, hc]
theorem takeR_bad {log more : List Entry} {i : Nat} (h : ¬ (takeR log more i).code = 0) : 40 < (take7 log more i).length ∧ takeR log more i = ⟨2, []⟩ := by
  unfold takeR at h ⊢
  split at h
  · rename_i h4; exact ⟨h4, if_pos h4⟩
  · simp at h
theorem takeR_ok {log more : List Entry} {i : Nat} (h : (takeR log more i).code = 0) : ¬ 40 < (take7 log more i).length ∧ takeR log more i = ⟨0, take7 log more i⟩ := by
  unfold takeR at h ⊢
  split at h
  · simp at h
  · rename_i h4; exact ⟨h4, if_neg h4⟩
theorem mail_ok {x : Node} {m : Mail} (hp : 1 ≤ x.peers ∧ x.peers ≤ 5) (h : mailFault x m = 0) : (1 ≤ m.kind ∧ m.kind ≤ 4) ∧ (0 ≤ m.from_ ∧ m.from_ < x.peers) ∧ (1 ≤ m.term ∧ m.term ≤ 100000) ∧ (0 ≤ m.index ∧ m.index ≤ 40) ∧ (0 ≤ m.commit ∧ m.commit ≤ 40) ∧ logFault m.entries = 0 ∧ (0 < m.entries.length → m.last ≤ (m.entries.getD 0 zEntry).term) := by
  unfold mailFault at h
  split at h
  · cases h
  rename_i g1
  split at h
  · cases h
  rename_i g2
  split at h
  · rename_i g3; exact absurd h g3
  rename_i g3
  split at h
  · cases h
  rename_i g4
  have g1 : inR m.kind 1 4 = true := by simpa using g1
  have g2 : mailRange x m = true := by simpa using g2
  have g4 : mailForm m := by simpa using g4
  unfold mailRange isId inR at g2
  unfold inR at g1
  simp only [Bool.and_eq_true, decide_eq_true_eq] at g1 g2
  obtain ⟨⟨⟨⟨⟨⟨a1, a2⟩, a3⟩, a4⟩, a5⟩, a6⟩, a7⟩ := g2
  rw [wrap_small (by omega) (by omega)] at a1
  refine ⟨g1, ⟨a1.1, by omega⟩, a4, a5, a7, by simpa using g3, fun h0 => (g4.1 h0).2.2⟩
theorem rises_ge {xs : List Int} (h : rises xs) {b : Int} (h0 : ∀ i, i < xs.length → b ≤ xs.getD i zI_i64) : ∀ {i : Nat}, i < xs.length → b + i ≤ xs.getD i zI_i64
  | 0, hi => by simpa using h0 0 hi
  | i + 1, hi => by
    have e := h (i + 1) (by omega) hi
    have ih := rises_ge h h0 (i := i) (by omega)
    simp only [Nat.add_sub_cancel] at e
    omega
theorem votes_few {x : Node} (h : nodeFault x = 0) : rises x.votes ∧ x.votes.length ≤ 5 := by
  obtain ⟨⟨p1, p2, _⟩, _, _, _, hl, _⟩ := node_ok h
  refine ⟨hl.1, ?_⟩
  have hid := hl.2.2.1
  have hin : ∀ i, i < x.votes.length → 0 ≤ x.votes.getD i zI_i64 ∧ x.votes.getD i zI_i64 < x.peers := by
    intro i hi
    have := hid i hi
    unfold isId inR at this
    simp only [Bool.and_eq_true, decide_eq_true_eq] at this
    rw [wrap_small (by omega) (by omega)] at this
    omega
  cases hn : x.votes.length with
  | zero => omega
  | succ n =>
    have h1 := rises_ge hl.1 (b := 0) (fun i hi => (hin i hi).1) (i := n) (by omega)
    have h2 := (hin n (by omega)).2
    omega
structure HearOk (y : Node) (m : Mail) : Prop where
  lim : limN 2097152 y
  c0 : 0 ≤ y.commit
  c1 : y.commit ≤ y.log.length
  p1 : 1 ≤ y.peers
  p2 : y.peers ≤ 5
  p3 : 0 ≤ y.id
  p4 : y.id < y.peers
  rv : rises y.votes
  nv : y.votes.length ≤ 100
  lf : logFault y.log = 0
  tl : y.role = 2 → m.from_.toNat < y.next.length ∧ m.from_.toNat < y.match_.length ∧ 1 ≤ y.next.getD m.from_.toNat zI_i64 ∧ y.next.getD m.from_.toNat zI_i64 ≤ 41 ∧ 0 ≤ y.match_.getD m.from_.toNat zI_i64 ∧ y.match_.getD m.from_.toNat zI_i64 ≤ 40
theorem hear_ok {x : Node} {m : Mail} (hx : limN 2097152 x) (h : nodeFault x = 0) (hm : mailFault x m = 0) : HearOk (newer x m) m := by
  obtain ⟨⟨p1, p2, p3, p4, _⟩, lf, _, ⟨c0, c1⟩, _⟩ := node_ok h
  obtain ⟨v1, v2⟩ := votes_few h
  obtain ⟨_, ⟨f1, f2⟩, _⟩ := mail_ok ⟨p1, p2⟩ hm
  have hll := log_le lf
  unfold newer
  split
  · exact ⟨⟨hx.1, by simp [followed], by simp [followed], by simp [followed]⟩, c0, c1, p1, p2, p3, p4, by intro i h1 h2; simp [followed] at h2, by simp [followed], lf, by intro h; simp [followed] at h⟩
  · refine ⟨hx, c0, c1, p1, p2, p3, p4, v1, by omega, lf, fun hr => ?_⟩
    obtain ⟨n1, n2, n3, n4, n5, n6⟩ := next_ok h hr (i := m.from_.toNat) (by omega)
    exact ⟨n1, n2, by omega, by omega, n5, by omega⟩
theorem newer_lim {b : Nat} {x : Node} {m : Mail} (h : limN b x) : limN b (newer x m) := by
  unfold newer
  split
  · exact ⟨h.1, by simp [followed], by simp [followed], by simp [followed]⟩
  · exact h
theorem lead_lim {b : Nat} (hb : 5 ≤ b) {x : Node} (h : limN b x) (hp : x.peers ≤ 5) : limN b (leadOf x) := by
  refine ⟨by simpa [leadOf, agreed, led] using h.1, by simp [leadOf, agreed, led], ?_, ?_⟩ <;> simp [leadOf, agreed, led] <;> omega
theorem takenN_lim {b : Nat} (hb : 200 ≤ b) {y : Node} {m : Mail} (h : limN b y) (hc : takenC y m = 0) : limN b (takenN y m) := by
  have hf : limN b (followed y) := ⟨h.1, by simp [followed], by simp [followed], by simp [followed]⟩
  unfold takenN
  split
  · exact h
  · rename_i h0
    split
    · exact hf
    · rename_i h1
      have hl : (takenL y m).length ≤ 40 := by
        by_cases h4 : 40 < (takenL y m).length
        · exfalso
          revert hc
          unfold takenC
          have g1 : ¬ m.term < y.term := fun e => h0 (.inl e)
          have g2 : ¬ y.role = 2 := fun e => h0 (.inr e)
          have g3 : ¬ fitsM y.log m.index m.last = false := fun e => h1 (.inl e)
          simp [g1, g2, g3, h4]
        · omega
      exact ⟨by simp only [takenOk]; omega, hf.2.1, hf.2.2.1, hf.2.2.2⟩
theorem takenM_entries (y : Node) (m : Mail) : (takenM y m).entries = [] := by
  unfold takenM
  repeat' split
  all_goals rfl
theorem hear_lim {b : Nat} (hb : 200 ≤ b) {x : Node} {m : Mail} (h : limN b x) (hb2 : b ≤ 2097152) : limR b (hearMail x m) := by
  unfold hearMail
  split
  · exact lim_badN
  split
  · exact lim_badN
  rename_i h0 h1
  have K := hear_ok (x := x) (m := m) ⟨by have := h.1; omega, by have := h.2.1; omega, by have := h.2.2.1; omega, by have := h.2.2.2; omega⟩ (by omega) (by omega)
  have hy : limN b (newer x m) := newer_lim h
  unfold hear
  generalize newer x m = y at K hy ⊢
  have hr := riseL_len y.votes m.from_
  have hnv := K.nv
  have hri : limN b (riseN y m) := ⟨hy.1, by simp only [riseN]; omega, hy.2.2.1, hy.2.2.2⟩
  split
  · refine ⟨?_, by simp; omega, fun z hz => ?_⟩
    · show limN b (votedN y m)
      unfold votedN
      split
      · exact hy
      · exact hy
    · simp only [List.mem_singleton] at hz
      subst hz
      simp [limM, grantM]
  split
  · refine ⟨?_, by simp, by simp⟩
    show limN b (grantedN y m)
    unfold grantedN
    split
    · split
      · exact lead_lim (by omega) hri K.p2
      · exact hri
    · exact hy
  split
  · split
    · exact lim_badN
    · rename_i hc
      refine ⟨takenN_lim hb hy (by simpa using hc), by simp; omega, fun z hz => ?_⟩
      simp only [List.mem_singleton] at hz
      subst hz
      simp [limM, takenM_entries]
  · refine ⟨?_, by simp, by simp⟩
    show limN b (toldN y m)
    unfold toldN
    split
    · exact hy
    · split
      · refine ⟨hy.1, hy.2.1, ?_, ?_⟩
        · simpa [agreed, toldOk] using hy.2.2.1
        · simpa [agreed, toldOk] using hy.2.2.2
      · refine ⟨hy.1, hy.2.1, ?_, hy.2.2.2⟩
        simpa [toldNo] using hy.2.2.1
theorem law_n_bd {x : Node} (h : limN 2097152 x) (k : Int) : sN1 x k ≤ k + 30000000 := by
  obtain ⟨h1, h2, h3, h4⟩ := h
  have e1 := mkE_bd x.log k
  have e2 := mkI_bd x.votes (mkK sE x.log k)
  have e3 := mkI_bd x.next (mkK sI x.votes (mkK sE x.log k))
  have e4 := mkI_bd x.match_ (mkK sI x.next (mkK sI x.votes (mkK sE x.log k)))
  unfold sN1
  omega
theorem law_r_bd {r : NodeResult} (h : limR 2097152 r) : mkK sM r.send (sN1 r.node 1) ≤ 9000000000000000000 := by
  obtain ⟨h1, h2, h3⟩ := h
  have e1 := law_n_bd h1 1
  have e2 := mkK_bd (s := sM) (c := 30000000) (by omega) (xs := r.send) (k := sN1 r.node 1) fun y hy k => sM_bd (h3 y hy) k
  omega
theorem law_m_bd {x : Node} {m : Mail} (h : limN 2097152 x) (hm : limM 2097152 m) : sN1 x 1 ≤ 9000000000000000000 ∧ mkK sE m.entries (sN1 x 1) ≤ 9000000000000000000 := by
  have e1 := law_n_bd h 1
  have e2 := mkE_bd m.entries (sN1 x 1)
  unfold limM at hm
  omega
theorem law_up (x : Node) (m : Mail) (r : NodeResult) : 1 ≤ sN1 x 1 ∧ 1 ≤ mkK sE m.entries (sN1 x 1) ∧ 1 ≤ mkK sM r.send (sN1 r.node 1) := by
  have e1 := sN1_up x 1
  have e2 := mkK_mono sE_up m.entries (sN1 x 1)
  have e3 := sN1_up r.node 1
  have e4 := mkK_mono sM_up r.send (sN1 r.node 1)
  omega
theorem mkL_take {α : Type} (f : α → Int → α) (s : α → Int → Int) (xs : List α) (k : Int) : List.take xs.length (mkL f s xs k) = mkL f s xs k := List.take_of_length_le (by rw [mkL_length]; exact Nat.le_refl _)
noncomputable def deliverMail (x : Cluster) (p : Int) : ClusterResult := if mailGuard x p ≠ 0 then bad (mailGuard x p) else doR (without x p.toNat) (x.mails.getD p.toNat zMail).to_.toNat (hearMail (x.nodes.getD (x.mails.getD p.toNat zMail).to_.toNat zNode) (x.mails.getD p.toNat zMail))
theorem cl_mail {x : Cluster} (h : clusterFault x = 0) {n : Nat} (hn : n < x.mails.length) : ∃ i : Nat, (x.mails.getD n zMail).to_ = i ∧ i < x.nodes.length ∧ mailFault (x.nodes.getD i zNode) (x.mails.getD n zMail) = 0 := by
  have hs : scan (mailAt x) x.mails.length 0 = 0 := by unfold clusterFault at h; grind
  have h1 := scan_zero.1 hs n hn
  rw [mailAt_eq] at h1
  split at h1
  · cases h1
  · rename_i hp
    have hp2 : place x (x.mails.getD n zMail).to_ = true := by
      cases hq : place x (x.mails.getD n zMail).to_
      · exact absurd hq hp
      · rfl
    have h2 := place_iff.1 hp2
    exact ⟨(x.mails.getD n zMail).to_.toNat, by omega, by omega, h1⟩
theorem first_bad (p : Nat → Bool) : ∀ (n : Nat), ∃ k, k ≤ n ∧ (∀ q, q < k → p q = true) ∧ (k < n → p k = false)
  | 0 => ⟨0, Nat.le_refl _, fun q h => by omega, fun h => by omega⟩
  | n + 1 => by
    obtain ⟨k, h1, h2, h3⟩ := first_bad p n
    rcases Nat.lt_or_ge k n with h | h
    · exact ⟨k, by omega, h2, fun _ => h3 h⟩
    · obtain rfl : k = n := by omega
      cases hp : p k with
      | false => exact ⟨k, by omega, h2, fun _ => hp⟩
      | true =>
        refine ⟨k + 1, Nat.le_refl _, fun q hq => ?_, fun h => by omega⟩
        rcases Nat.lt_or_ge q k with h4 | h4
        · exact h2 q h4
        · obtain rfl : q = k := by omega
          exact hp
theorem take7_ge {log more : List Entry} {i : Nat} (hi : i ≤ log.length) : i + more.length ≤ (take7 log more i).length := by
  obtain ⟨k, h1, h2, h3⟩ := first_bad (fun k => !bad7 log more i k) more.length
  have hlo : ∀ q, q < k → bad7 log more i q = false := fun q hq => by simpa using h2 q hq
  have hik : i + k ≤ log.length := by
    cases k with
    | zero => omega
    | succ k =>
      have := hlo k (by omega)
      unfold bad7 at this
      simp only [Bool.or_eq_false_iff, decide_eq_false_iff_not] at this
      omega
  rcases Nat.lt_or_ge k more.length with h | h
  · rw [take7_at h hlo (by simpa using h3 h)]
    simp
    omega
  · obtain rfl : k = more.length := by omega
    rw [take7_all hlo]
    omega
theorem commonN_le (a b : List Entry) : commonN a b ≤ b.length := by
  unfold commonN
  have := (List.takeWhile_prefix (l := List.range (min a.length b.length)) (fun n => eqEn (a.getD n zEntry) (b.getD n zEntry))).length_le
  rw [List.length_range] at this
  omega
theorem agreed_commit {x : Node} (h0 : 0 ≤ x.commit) (h1 : x.commit ≤ x.log.length) : (agreed x).commit ≤ (agreed x).log.length := by
  have := agN_bd x (c := x.commit.toNat) (n := x.log.length) (by omega)
  show agI x ≤ x.log.length
  unfold agI
  omega
theorem taken_commit {y : Node} {m : Mail} (hl : y.log.length ≤ 2097152) (h1 : y.commit ≤ y.log.length) (hc : takenC y m = 0) : (takenN y m).commit ≤ (takenN y m).log.length := by
  unfold takenN
  split
  · exact h1
  · rename_i h0
    have g1 : ¬ m.term < y.term := fun e => h0 (.inl e)
    have g2 : ¬ y.role = 2 := fun e => h0 (.inr e)
    split
    · exact h1
    · rename_i h2
      have g3 : fitsM y.log m.index m.last = true := by
        cases hf : fitsM y.log m.index m.last
        · exact absurd (.inl hf) h2
        · rfl
      obtain ⟨i, hi, hin⟩ := fits_nat hl g3
      have g4 : y.commit ≤ (commonN y.log (takenL y m) : Int) := by
        revert hc
        unfold takenC
        rw [if_neg g1, if_neg g2, if_neg (by simp [g3])]
        split
        · intro h; cases h
        · split
          · intro h; cases h
          · intro _; omega
      have g5 := commonN_le y.log (takenL y m)
      have g6 : i + m.entries.length ≤ (takenL y m).length := by
        have := take7_ge (more := m.entries) hin
        unfold takenL
        rw [hi]
        exact this
      show max y.commit (min m.commit (takenEnd m)) ≤ ((takenL y m).length : Int)
      unfold takenEnd
      omega
theorem hear_commit {x : Node} {m : Mail} (hx : limN 2097152 x) : (hearMail x m).node.commit ≤ (hearMail x m).node.log.length := by
  unfold hearMail
  split
  · simp [badN, zNode]
  split
  · simp [badN, zNode]
  have K := hear_ok (x := x) (m := m) hx (by omega) (by omega)
  unfold hear
  generalize newer x m = y at K ⊢
  split
  · show (votedN y m).commit ≤ (votedN y m).log.length
    unfold votedN
    split
    · exact K.c1
    · exact K.c1
  split
  · show (grantedN y m).commit ≤ (grantedN y m).log.length
    unfold grantedN
    split
    · split
      · exact agreed_commit (x := led (riseN y m)) K.c0 K.c1
      · exact K.c1
    · exact K.c1
  split
  · split
    · simp [badN, zNode]
    · rename_i hc
      exact taken_commit K.lim.1 K.c1 (by simpa using hc)
  · show (toldN y m).commit ≤ (toldN y m).log.length
    unfold toldN
    split
    · exact K.c1
    · split
      · exact agreed_commit (x := toldOk y m) K.c0 K.c1
      · exact K.c1
theorem hear_id {x : Node} {m : Mail} (h : (hearMail x m).code = 0) : (hearMail x m).node.id = x.id := by
  unfold hearMail at *
  split at h
  · rename_i h0; exact absurd h h0
  rename_i h0
  rw [if_neg h0]
  split at h
  · rename_i h1; exact absurd h h1
  rename_i h1
  rw [if_neg h1]
  have hy : (newer x m).id = x.id := by
    unfold newer
    split <;> rfl
  unfold hear at *
  generalize newer x m = y at hy h ⊢
  split at h
  · rename_i k1
    rw [if_pos k1]
    show (votedN y m).id = x.id
    unfold votedN
    split <;> exact hy
  rename_i k1
  rw [if_neg k1]
  split at h
  · rename_i k2
    rw [if_pos k2]
    show (grantedN y m).id = x.id
    unfold grantedN
    split
    · split <;> exact hy
    · exact hy
  rename_i k2
  rw [if_neg k2]
  split at h
  · rename_i k3
    rw [if_pos k3]
    split at h
    · rename_i k4; exact absurd h k4
    · rename_i k4
      rw [if_neg k4]
      show (takenN y m).id = x.id
      unfold takenN
      split
      · exact hy
      · split <;> exact hy
  · rename_i k3
    rw [if_neg k3]
    show (toldN y m).id = x.id
    unfold toldN
    split
    · exact hy
    · split <;> exact hy
theorem without_lim {b : Nat} {x : Cluster} (h : limC b x) (n : Nat) : limC b (without x n) := by
  obtain ⟨⟨a1, a2⟩, ⟨b1, b2⟩, c1, d1⟩ := h
  refine ⟨⟨a1, a2⟩, ⟨by simp [without]; omega, fun y hy => b2 y ?_⟩, c1, d1⟩
  rcases List.mem_append.1 hy with hy | hy
  · exact List.mem_of_mem_take hy
  · exact List.mem_of_mem_drop hy
theorem do_lim {x : Cluster} (h : limC 1048576 x) (i : Nat) {r : NodeResult} (hr : limR 1048576 r) : limC 2097152 (doR x i r).cluster := by
  unfold doR
  split
  · obtain ⟨⟨a1, a2⟩, ⟨b1, b2⟩, c1, d1⟩ := h
    obtain ⟨⟨e1, e2, e3, e4⟩, f1, f2⟩ := hr
    have hm : limC 2097152 x := limC_mono (by omega) ⟨⟨a1, a2⟩, ⟨b1, b2⟩, c1, d1⟩
    refine ⟨⟨by simp [doC]; omega, fun y hy => ?_⟩, ⟨by simp [doC]; omega, fun y hy => ?_⟩, ?_, ?_⟩
    · rcases List.mem_or_eq_of_mem_set hy with hy | rfl
      · exact hm.1.2 y hy
      · exact ⟨by omega, by omega, by omega, by omega⟩
    · rcases List.mem_append.1 hy with hy | hy
      · exact hm.2.1.2 y hy
      · have := f2 y hy
        unfold limM at *
        omega
    · show (doWins _ _ _).length ≤ _
      unfold doWins
      split
      · simp; omega
      · omega
    · show (sealsTo _ _ _).length ≤ _
      unfold sealsTo
      simp
      omega
  · exact lim_bad
theorem deliverMail_lim {x : Cluster} (h : limC 1048576 x) (p : Int) : limC 2097152 (deliverMail x p).cluster := by
  unfold deliverMail
  split
  · exact lim_bad
  · exact do_lim (without_lim h _) _ (hear_lim (by omega) (lim_getD h.1.2 _) (by omega))
theorem hearMail_ok {x : Node} {m : Mail} (hn : nodeFault x = 0) (hm : mailFault x m = 0) : hearMail x m = hear x m := by
  unfold hearMail
  rw [if_neg (by simp [hn]), if_neg (by simp [hm])]
end Go.H
end
section
set_option linter.unusedVariables false
namespace Go.H
open Go Go.Proofs.Tryz
noncomputable def tbl : Nat → Bool → List T
  | 2, _ => dI_i64
  | 3, _ => dI_i64
  | 5, _ => dI_u8
  | 6, _ => dI_u8
  | 29, b => dCluster b
  | 36, b => dEntriesResult b
  | 39, _ => dIntResult
  | 44, b => dNode b
  | 46, b => dMail b
  | 50, b => dNodeResult b
  | 57, b => dClusterResult b
  | 60, _ => dCmd
  | 66, _ => dEntry
  | 68, _ => dSeal
  | 99, _ => dWon
  | 185, _ => dI_u8
  | 186, _ => dI_u8
  | _, _ => []
theorem tb2 (b : Bool) : tbl 2 b = dI_i64 := rfl
theorem tb3 (b : Bool) : tbl 3 b = dI_i64 := rfl
theorem tb5 (b : Bool) : tbl 5 b = dI_u8 := rfl
theorem tb6 (b : Bool) : tbl 6 b = dI_u8 := rfl
theorem tb29 (b : Bool) : tbl 29 b = dCluster b := rfl
theorem tb36 (b : Bool) : tbl 36 b = dEntriesResult b := rfl
theorem tb39 (b : Bool) : tbl 39 b = dIntResult := rfl
theorem tb44 (b : Bool) : tbl 44 b = dNode b := rfl
theorem tb46 (b : Bool) : tbl 46 b = dMail b := rfl
theorem tb50 (b : Bool) : tbl 50 b = dNodeResult b := rfl
theorem tb57 (b : Bool) : tbl 57 b = dClusterResult b := rfl
theorem tb60 (b : Bool) : tbl 60 b = dCmd := rfl
theorem tb66 (b : Bool) : tbl 66 b = dEntry := rfl
theorem tb68 (b : Bool) : tbl 68 b = dSeal := rfl
theorem tb99 (b : Bool) : tbl 99 b = dWon := rfl
theorem tb185 (b : Bool) : tbl 185 b = dI_u8 := rfl
theorem tb186 (b : Bool) : tbl 186 b = dI_u8 := rfl
noncomputable def tr0 : List TypeInfo := [t0, t1, t2, t3, t4, t5, t6, t7, t8, t9, t10, t11, t12, t13, t14, t15]
noncomputable def tr1 : List TypeInfo := [t16, t17, t18, t19, t20, t21, t22, t23, t24, t25, t26, t27, t28, t29, t30, t31]
noncomputable def tr2 : List TypeInfo := [t32, t33, t34, t35, t36, t37, t38, t39, t40, t41, t42, t43, t44, t45, t46, t47]
noncomputable def tr3 : List TypeInfo := [t48, t49, t50, t51, t52, t53, t54, t55, t56, t57, t58, t59, t60, t61, t62, t63]
noncomputable def tr4 : List TypeInfo := [t64, t65, t66, t67, t68, t69, t70, t71, t72, t73, t74, t75, t76, t77, t78, t79]
noncomputable def tr5 : List TypeInfo := [t80, t81, t82, t83, t84, t85, t86, t87, t88, t89, t90, t91, t92, t93, t94, t95]
noncomputable def tr6 : List TypeInfo := [t96, t97, t98, t99, t100, t101, t102, t103, t104, t105, t106, t107, t108, t109, t110, t111]
noncomputable def tr7 : List TypeInfo := [t112, t113, t114, t115, t116, t117, t118, t119, t120, t121, t122, t123, t124, t125, t126, t127]
noncomputable def tr8 : List TypeInfo := [t128, t129, t130, t131, t132, t133, t134, t135, t136, t137, t138, t139, t140, t141, t142, t143]
noncomputable def tr9 : List TypeInfo := [t144, t145, t146, t147, t148, t149, t150, t151, t152, t153, t154, t155, t156, t157, t158, t159]
noncomputable def tr10 : List TypeInfo := [t160, t161, t162, t163, t164, t165, t166, t167, t168, t169, t170, t171, t172, t173, t174, t175]
noncomputable def tr11 : List TypeInfo := [t176, t177, t178, t179, t180, t181, t182, t183, t184, t185, t186, t187, t188, t189, t190, t191]
noncomputable def tr12 : List TypeInfo := [t192, t193]
noncomputable def tys (t : Nat) : Option TypeInfo := tyG [tr0, tr1, tr2, tr3, tr4, tr5, tr6, tr7, tr8, tr9, tr10, tr11, tr12] t
theorem goF [Inv prog] {fn : Func} {f : FuncId} {av : List Arg} {L : List Ob} {rs : List TV} {L' : List Ob} {c : (Nat → Bool → List T) → SC} {c' : SC} {rvs : List RV} (hs : List (Nat × Hn)) (dr : List (Nat × Nat × List Nat × List Nat)) (dp : List (Nat × List Nat)) (hf : prog.funcs[f]? = some fn)
    (k : CW prog c' (endX rvs L rs L') (initS av L)) (hc : ∀ tb, genF tys fn tb hs dr dp = c tb := by intro tb; cbv) (hcc : c tbl = c' := by first | (dsimp only [tb2, tb3, tb5, tb6, tb29, tb36, tb39, tb44, tb46, tb50, tb57, tb60, tb66, tb68, tb99, tb185, tb186] <;> exact rfl) | exact rfl) (hk : OkG prog fn (genF tys fn tbl hs dr dp) := by exact ⟨_, rfl, by kernel_rfl, by kernel_rfl⟩)
    (h0 : cmpR prog fn.results.toList = some (rvG tys fn.results.toList) := by kernel_rfl) (hr : rvG tys fn.results.toList = rvs := by cbv) (hn : Nat.ble av.length fn.ntmps = true := by kernel_rfl) (has : Nat.ble av.length 199 = true := by rfl)
    (hok : ∀ o ∈ L, obOk o := by first | (simp; done) | (simp [obOk]; done) | (simp [obOk, go_sem]; done)) (hok2 : ∀ a ∈ av, argOk a := by first | (simp [argOk, aT, aI, aS]; done) | (simp [argOk, go_sem]; done)) : SemX prog f av L rs L' := by
  obtain ⟨cc, g1, g2, g3⟩ := hk
  subst hcc
  subst hr
  rw [hc tbl] at g2 g3
  exact SemX.of_code hf g1 g2 g3 h0 (Nat.le_of_ble_eq_true hn) (Nat.lt_succ_of_le (Nat.le_of_ble_eq_true has)) hok hok2 k
theorem goFC [Inv prog] {fn : Func} {f : FuncId} {av : List Arg} {L : List Ob} {rs : List TV} {L' : List Ob} {c : (Nat → Bool → List T) → SC} {c' : SC} {rvs : List RV} (k0 : Nat) {A : Arr} (hs : List (Nat × Hn)) (dr : List (Nat × Nat × List Nat × List Nat)) (dp : List (Nat × List Nat)) (hf : prog.funcs[f]? = some fn)
    (k : ∀ cp, A.rows.length ≤ cp → cp ≤ 9223372036854775807 → CW prog c' (endX rvs L rs L') ((initS av L).full k0 cp)) (hk0 : look k0 (initS av L).ms = some (.arr A) := by exact rfl) (hc : ∀ tb, genF tys fn tb hs dr dp = c tb := by intro tb; cbv) (hcc : c tbl = c' := by first | (dsimp only [tb2, tb3, tb5, tb6, tb29, tb36, tb39, tb44, tb46, tb50, tb57, tb60, tb66, tb68, tb99, tb185, tb186] <;> exact rfl) | exact rfl) (hk : OkG prog fn (genF tys fn tbl hs dr dp) := by exact ⟨_, rfl, by kernel_rfl, by kernel_rfl⟩)
    (h0 : cmpR prog fn.results.toList = some (rvG tys fn.results.toList) := by kernel_rfl) (hr : rvG tys fn.results.toList = rvs := by cbv) (hn : Nat.ble av.length fn.ntmps = true := by kernel_rfl) (has : Nat.ble av.length 199 = true := by rfl)
    (hok : ∀ o ∈ L, obOk o := by first | (simp; done) | (simp [obOk]; done) | (simp [obOk, go_sem]; done)) (hok2 : ∀ a ∈ av, argOk a := by first | (simp [argOk, aT, aI, aS]; done) | (simp [argOk, go_sem]; done)) : SemX prog f av L rs L' := by
  obtain ⟨cc, g1, g2, g3⟩ := hk
  subst hcc
  subst hr
  rw [hc tbl] at g2 g3
  exact SemX.of_codeC k0 hf g1 g2 g3 h0 (Nat.le_of_ble_eq_true hn) (Nat.lt_succ_of_le (Nat.le_of_ble_eq_true has)) hok hok2 hk0 k
theorem goL [Inv prog] {fn : Func} {f : FuncId} {av : List Arg} {cells : List T} {c : (Nat → Bool → List T) → SC} {c' : SC} {rvs : List RV} (hs : List (Nat × Hn)) (dr : List (Nat × Nat × List Nat × List Nat)) (dp : List (Nat × List Nat)) (hf : prog.funcs[f]? = some fn)
    (k : CW prog c' (endL rvs cells) (initS av [])) (hc : ∀ tb, genF tys fn tb hs dr dp = c tb := by intro tb; cbv) (hcc : c tbl = c' := by first | (dsimp only [tb2, tb3, tb5, tb6, tb29, tb36, tb39, tb44, tb46, tb50, tb57, tb60, tb66, tb68, tb99, tb185, tb186] <;> exact rfl) | exact rfl) (hk : OkG prog fn (genF tys fn tbl hs dr dp) := by exact ⟨_, rfl, by kernel_rfl, by kernel_rfl⟩)
    (h0 : cmpR prog fn.results.toList = some (rvG tys fn.results.toList) := by kernel_rfl) (hr : rvG tys fn.results.toList = rvs := by cbv) (hn : Nat.ble av.length fn.ntmps = true := by kernel_rfl) (has : Nat.ble av.length 199 = true := by rfl)
    (hok2 : ∀ a ∈ av, argOk a := by first | (simp [argOk, aT, aI, aS]; done) | (simp [argOk, go_sem]; done)) : LayX prog f av cells := by
  obtain ⟨cc, g1, g2, g3⟩ := hk
  subst hcc
  subst hr
  rw [hc tbl] at g2 g3
  exact LayX.of_code hf g1 g2 g3 h0 (Nat.le_of_ble_eq_true hn) (Nat.lt_succ_of_le (Nat.le_of_ble_eq_true has)) hok2 k
end Go.H
end
section
set_option maxRecDepth 100000
set_option maxHeartbeats 4000000
set_option cbv.maxSteps 4000000
set_option linter.unusedVariables false
set_option linter.unusedSimpArgs false
namespace Go.H
open Go Go.Proofs.Tryz
variable [Inv prog]
theorem s_impl_in (a b c : Int) : SemX prog 56 [.one (.t (.int .i64 a)), .one (.t (.int .i64 b)), .one (.t (.int .i64 c))] [] [.one (.bool (inR a b c))] [] := by
 refine goF [] [] [] func56 ?_
 refine D ?_
 refine E ?_
 first
 | exact trivial
 | simp only [go_sem, inR]; done
 | try simp only [go_sem, inR]
   exact rfl
theorem s_impl_Node_isId (x : Node) (i : Int) : SemX prog 57 [aT (.ptr (eNode false x)), aI i] [] [rB (isId x i)] [] := by
 refine goF [] [] [] func57 ?_
 refine D ?_
 refine kR (s_impl_in i 0 (IntKind.wrap .i64 (x.peers - 1))) ?_
 refine D ?_
 refine E ?_
 first
 | exact trivial
 | simp only [go_sem, isId]
theorem s_impl_needs (k : Int) : SemX prog 163 [aI k] [] [rB (nd1 k), rB (nd2 k), rB (nd3 k), rB (nd4 k)] [] := by
 refine goF [] [] [] func163 ?_
 refine D ?_
 refine kR (s_impl_in k 5 8) ?_
 refine D ?_
 refine kR (s_impl_in k 5 6) ?_
 refine D ?_
 refine E ?_
 first
 | exact trivial
 | simp only [go_sem, nd1, nd2, nd3, nd4, rB]; done
 | try simp only [go_sem, nd1, nd2, nd3, nd4, rB]
   simp
theorem s_impl_isName (n : Int) : SemX prog 164 [aI n] [] [rB (inR n 1 999)] [] := by
 refine goF [] [] [] func164 ?_
 refine D ?_
 refine kR (s_impl_in n 1 999) ?_
 refine D ?_
 exact E trivial
theorem s_impl_isAddress (n : Int) : SemX prog 165 [aI n] [] [rB (inR n 0 4294967295)] [] := by
 refine goF [] [] [] func165 ?_
 refine D ?_
 refine kR (s_impl_in n 0 4294967295) ?_
 refine D ?_
 exact E trivial
theorem s_impl_isPort (n : Int) : SemX prog 183 [aI n] [] [rB (inR n 0 65535)] [] := by
 refine goF [] [] [] func183 ?_
 refine D ?_
 refine kR (s_impl_in n 0 65535) ?_
 refine D ?_
 exact E trivial
theorem s_impl_isNumber (x : Cmd) : SemX prog 166 [aS (eCmd x)] [] [rB (isNum x)] [] := by
 refine goF [] [] [] func166 ?_
 refine D ?_
 refine cC (fun c0 => ?_) (fun c0 => ?_)
 · skip
   refine D ?_
   refine cC (fun c1 => ?_) (fun c1 => ?_)
   · skip
     refine D ?_
     refine kR (s_impl_in _ _ _) ?_
     refine D ?_
     refine E ?_
     first
     | exact trivial
     | simp only [go_sem, isNum]; done
     | try simp only [go_sem, isNum]
       first | (exfalso; omega) | (simp [*]; done)
   · skip
     refine D ?_
     refine cC (fun c2 => ?_) (fun c2 => ?_)
     · skip
       refine D ?_
       refine kR (s_impl_in _ _ _) ?_
       refine D ?_
       refine E ?_
       first
       | exact trivial
       | simp only [go_sem, isNum]; done
       | try simp only [go_sem, isNum]
         first | (exfalso; omega) | (simp [*]; done)
     · skip
       refine D ?_
       refine cC (fun c3 => ?_) (fun c3 => ?_)
       · skip
         refine D ?_
         refine kR (s_impl_in _ _ _) ?_
         refine D ?_
         refine E ?_
         first
         | exact trivial
         | simp only [go_sem, isNum]; done
         | try simp only [go_sem, isNum]
           first | (exfalso; omega) | (simp [*]; done)
       · skip
         refine D ?_
         refine kR (s_impl_isPort _) ?_
         refine D ?_
         refine E ?_
         first
         | exact trivial
         | simp only [go_sem, isNum]; done
         | try simp only [go_sem, isNum]
           first | (exfalso; omega) | (simp [*]; done)
 · skip
   refine D ?_
   refine cC (fun c1 => ?_) (fun c1 => ?_)
   · skip
     refine D ?_
     refine kR (s_impl_in _ _ _) ?_
     refine D ?_
     refine E ?_
     first
     | exact trivial
     | simp only [go_sem, isNum]; done
     | try simp only [go_sem, isNum]
       first | (exfalso; omega) | (simp [*]; done)
   · skip
     refine D ?_
     refine cC (fun c2 => ?_) (fun c2 => ?_)
     · skip
       refine D ?_
       refine kR (s_impl_in _ _ _) ?_
       refine D ?_
       refine E ?_
       first
       | exact trivial
       | simp only [go_sem, isNum]; done
       | try simp only [go_sem, isNum]
         first | (exfalso; omega) | (simp [*]; done)
     · skip
       refine D ?_
       refine cC (fun c3 => ?_) (fun c3 => ?_)
       · skip
         refine D ?_
         refine kR (s_impl_in _ _ _) ?_
         refine D ?_
         refine E ?_
         first
         | exact trivial
         | simp only [go_sem, isNum]; done
         | try simp only [go_sem, isNum]
           first | (exfalso; omega) | (simp [*]; done)
       · skip
         refine D ?_
         refine kR (s_impl_isPort _) ?_
         refine D ?_
         refine E ?_
         first
         | exact trivial
         | simp only [go_sem, isNum]; done
         | try simp only [go_sem, isNum]
           first | (exfalso; omega) | (simp [*]; done)
theorem s_impl_isProto (n : Int) : SemX prog 167 [aI n] [] [rB (isPro n)] [] := by
 refine goF [] [] [] func167 ?_
 refine D ?_
 refine E ?_
 first
 | exact trivial
 | simp only [go_sem, isPro]; done
 | try simp only [go_sem, isPro]
   cases decide (n = 6) <;> rfl
section
attribute [local go_sem] exp_eq
theorem s_impl_CmdFault (x : Cmd) : SemX prog 134 [aS (eCmd x)] [] [rI (cmdFault x)] [] := by
 refine goF [] [] [] func134 ?_
 refine D ?_
 refine kR (s_impl_in _ _ _) ?_
 refine D ?_
 refine cC (fun c0 => ?_) (fun c0 => ?_)
 · skip
   refine D ?_
   refine E ?_
   first
   | exact trivial
   | simp only [go_sem, cmdFault]; done
   | try simp only [go_sem, cmdFault]
     grind
 · skip
   refine D ?_
   refine kR (s_impl_needs _) ?_
   refine D ?_
   refine kR (s_impl_in _ _ _) ?_
   refine D ?_
   refine kRg (s_impl_isName _) ?_
   refine D ?_
   refine kRg (s_impl_isAddress _) ?_
   refine D ?_
   refine kRg (s_impl_isNumber _) ?_
   refine D ?_
   refine kRg (s_impl_isProto _) ?_
   refine D ?_
   refine cC (fun c1 => ?_) (fun c1 => ?_)
   · skip
     refine D ?_
     refine E ?_
     first
     | exact trivial
     | simp only [go_sem, cmdFault]; done
     | try simp only [go_sem, cmdFault]
       grind
   · skip
     refine D ?_
     refine cC (fun c2 => ?_) (fun c2 => ?_)
     · skip
       refine D ?_
       refine E ?_
       first
       | exact trivial
       | simp only [go_sem, cmdFault]; done
       | try simp only [go_sem, cmdFault]
         grind
     · skip
       refine D ?_
       refine E ?_
       first
       | exact trivial
       | simp only [go_sem, cmdFault]; done
       | try simp only [go_sem, cmdFault]
         grind
end
theorem s_impl_EntryFault (x : Entry) : SemX prog 85 [aS (eEntry x)] [] [rI (entryFault x)] [] := by
 refine goF [] [] [] func85 ?_
 refine D ?_
 refine kR (s_impl_in _ _ _) ?_
 refine D ?_
 refine kRg (s_impl_in _ _ _) ?_
 refine D ?_
 refine kRg (s_impl_in _ _ _) ?_
 refine D ?_
 refine cC (fun c0 => ?_) (fun c0 => ?_)
 · skip
   refine D ?_
   refine E ?_
   first
   | exact trivial
   | simp only [go_sem, entryFault]; done
   | try simp only [go_sem, entryFault]
     simp only [entryFault, cmdZero]
     grind
 · skip
   refine D ?_
   refine cC (fun c1 => ?_) (fun c1 => ?_)
   · skip
     refine D ?_
     refine E ?_
     first
     | exact trivial
     | simp only [go_sem, entryFault]; done
     | try simp only [go_sem, entryFault]
       simp only [entryFault, cmdZero]
       grind
   · skip
     refine D ?_
     refine cC (fun c2 => ?_) (fun c2 => ?_)
     · skip
       refine D ?_
       refine kR (s_impl_CmdFault _) ?_
       refine D ?_
       refine E ?_
       first
       | exact trivial
       | simp only [go_sem, entryFault]; done
       | try simp only [go_sem, entryFault]
         simp only [entryFault, cmdZero]
         grind
     · skip
       refine D ?_
       refine cC (fun c3 => ?_) (fun c3 => ?_)
       · skip
         refine D ?_
         refine E ?_
         first
         | exact trivial
         | simp only [go_sem, entryFault]; done
         | try simp only [go_sem, entryFault]
           simp only [entryFault, cmdZero]
           grind
       · skip
         refine D ?_
         refine E ?_
         first
         | exact trivial
         | simp only [go_sem, entryFault]; done
         | try simp only [go_sem, entryFault]
           simp only [entryFault, cmdZero]
           grind
theorem s_impl_LogFault (xs : List Entry) (hl : xs.length ≤ 9223372036854775807) : SemX prog 58 [aT (.sl false 9 (xs.map eEntry))] [] [rI (logFault xs)] [] := by
 refine goF [] [(9, 4, [20480], [])] [] func58 ?_
 refine D ?_
 refine cC (fun c0 => ?_) (fun c0 => ?_)
 · skip
   refine D ?_
   refine E ?_
   rw [logFault, if_pos (by omega)]
 · skip
   refine D ?_
   refine L (α := Nat) (fun x => [(11, .int .i64 x)]) (fun x => []) (fun x => xs.length - x) (fun x => x ≤ xs.length ∧ logFault xs = scan (logBad xs) xs.length x) 0 [] (fun x hL => ?_) (hi := by exact ⟨Nat.zero_le _, by simp only [logFault]; rw [if_neg (by omega)]⟩)
   obtain ⟨hI, he⟩ := hL
   refine D ?_
   refine cC (fun c1 => ?_) (fun c1 => ?_)
   · skip
     refine D ?_
     refine kR (s_impl_EntryFault _) ?_
     refine D ?_
     refine cC (fun c2 => ?_) (fun c2 => ?_)
     · skip
       refine D ?_
       refine E ?_
       first
       | exact trivial
       | rw [he, scan_lt (by omega)]
         simp only [logBad]
         grind
     · skip
       refine D ?_
       refine cC (fun c3 => ?_) (fun c3 => ?_)
       · skip
         refine D ?_
         refine E ?_
         first
         | exact trivial
         | rw [he, scan_lt (by omega)]
           simp only [logBad]
           grind
       · skip
         refine D ?_
         refine N (x+1) [] (hi := ?_) (hm := ?_)
         · refine ⟨by omega, ?_⟩
           rw [he, scan_lt (by omega)]
           simp only [logBad]
           grind
         · omega
   · skip
     obtain rfl : x = xs.length := by omega
     refine D ?_
     refine E ?_
     rw [he, scan_ge (by omega)]
theorem s_impl_size_Entry (rows : List (List T)) : SemX prog 59 [.one (.t (.sl false 9 rows))] [] [.one (.int .i64 rows.length)] [] := by
 refine goF [] [] [] func59 ?_
 refine D ?_
 exact E trivial
theorem s_impl_last (xs : List Entry) (hl : xs.length ≤ 9223372036854775807) : SemX prog 60 [aT (.sl false 9 (xs.map eEntry))] [] [.agg (eEntry (lastE xs))] [] := by
 refine goF [] [] [] func60 ?_
 refine D ?_
 refine cC (fun c0 => ?_) (fun c0 => ?_)
 · skip
   refine D ?_
   refine E ?_
   have he : lastE xs = zEntry := by simp only [lastE]; rw [if_pos (by omega)]
   simp [he, zEntry, zCmd]
 · skip
   refine D ?_
   refine E ?_
   have he : lastE xs = xs.getD (xs.length - 1) zEntry := by simp only [lastE]; rw [if_neg (by omega)]
   simp [he]
theorem s_impl_size_int64 (rows : List (List T)) : SemX prog 61 [.one (.t (.sl false 1 rows))] [] [.one (.int .i64 rows.length)] [] := by
 refine goF [] [] [] func61 ?_
 refine D ?_
 exact E trivial
theorem s_slices_IndexFunc_int64 (xs : List Int) (fn : Nat) (m : Int) (p : Int → Bool) (hq : callB prog fn = true) (hf : ∀ v, SemX prog fn [aI v, aT (.ptr [.int .i64 m])] [] [rB (p v)] []) (hl : xs.length ≤ 2097152) : SemX prog 113 [aT (.sl false 1 (xs.map eI_i64)), .one (.fn fn [.t (.ptr [.int .i64 m])])] [] [rI (idxP p xs)] [] := by
 refine goF [] [] [] func113 ?_
 refine D ?_
 refine L (α := Nat) (fun x => [(8, .int .i64 x)]) (fun x => []) (fun x => xs.length - x) (fun x => x ≤ xs.length ∧ ∀ j, j < x → p (xs.getD j zI_i64) = false) 0 [] (fun x hL => ?_) (hi := by exact ⟨Nat.zero_le _, fun j hj => absurd hj (by omega)⟩)
 obtain ⟨hI, hj⟩ := hL
 refine D ?_
 refine cC (fun c0 => ?_) (fun c0 => ?_)
 · skip
   refine D ?_
   refine kR (hf (xs.getD x zI_i64)) ?_ hq
   refine D ?_
   refine cC (fun c1 => ?_) (fun c1 => ?_)
   · skip
     refine D ?_
     refine E ?_
     rw [idxP_some (by omega) hj (by assumption)]
   · skip
     refine D ?_
     refine N (x+1) [] (hi := ?_) (hm := ?_)
     · refine ⟨by omega, fun j hj2 => ?_⟩
       rcases Nat.lt_or_ge j x with h | h
       · exact hj j h
       · rw [show j = x by omega]; assumption
     · omega
 · skip
   refine D ?_
   refine E ?_
   rw [idxP_none (fun i hi => hj i (by omega))]
section
attribute [local go_sem] idxP_ge
theorem s_slices_ContainsFunc_int64 (xs : List Int) (fn : Nat) (m : Int) (p : Int → Bool) (hq : callB prog fn = true) (hf : ∀ v, SemX prog fn [aI v, aT (.ptr [.int .i64 m])] [] [rB (p v)] []) (hl : xs.length ≤ 2097152) : SemX prog 62 [aT (.sl false 1 (xs.map eI_i64)), .one (.fn fn [.t (.ptr [.int .i64 m])])] [] [rB (decide (∃ i, i < xs.length ∧ p (xs.getD i zI_i64) = true))] [] := by
 refine goF [] [] [] func62 ?_
 refine D ?_
 refine kR (s_slices_IndexFunc_int64 xs fn m p hq hf hl) ?_
 refine D ?_
 exact E trivial
end
theorem s_impl_NodeFault_1 (v m : Int) (h0 : 0 ≤ m) (h1 : m ≤ 2097152) : SemX prog 63 [aI v, aT (.ptr [.int .i64 m])] [] [rB (!inR v 1 (m + 1))] [] := by
 refine goF [(14, ⟨some 1, none, none, none⟩)] [] [] func63 ?_
 refine D ?_
 refine kR (s_impl_in v 1 (m + 1)) ?_
 refine D ?_
 exact E trivial
theorem s_impl_NodeFault_2 (v m : Int) : SemX prog 64 [aI v, aT (.ptr [.int .i64 m])] [] [rB (!inR v 0 m)] [] := by
 refine goF [] [] [] func64 ?_
 refine D ?_
 refine kR (s_impl_in v 0 m) ?_
 refine D ?_
 exact E trivial
theorem s_impl_NodeFault (x : Node) (hx : limN 2097152 x) : SemX prog 21 [aS (eNode false x)] [] [rI (nodeFault x)] [] := by
 refine goF [] [(7, 1, [8192], []), (7, 5, [8192], [])] [] func21 ?_
 obtain ⟨hx1, hx2, hx3, hx4⟩ := id hx
 refine D ?_
 refine kR (s_impl_in _ _ _) ?_
 refine D ?_
 refine kRg (s_impl_Node_isId x x.id) ?_
 refine D ?_
 refine kRg (s_impl_in _ _ _) ?_
 refine D ?_
 refine kRg (s_impl_Node_isId x x.voted) ?_
 refine D ?_
 refine kRg (s_impl_in _ _ _) ?_
 refine D ?_
 refine cC (fun c0 => ?_) (fun c0 => ?_)
 · skip
   have hr : nodeRange x = false := by have hv := voted_eq x; unfold nodeRange; grind
   refine D ?_
   refine E ?_
   first
   | exact trivial
   | unfold nodeFault rangeOk listsOk rises idsOk due
     grind
 · skip
   have hr : nodeRange x = true := by have hv := voted_eq x; unfold nodeRange; grind
   refine D ?_
   refine kR (s_impl_LogFault x.log (by omega)) ?_
   refine D ?_
   refine cC (fun c1 => ?_) (fun c1 => ?_)
   · skip
     refine D ?_
     refine E ?_
     first
     | exact trivial
     | unfold nodeFault rangeOk listsOk rises idsOk due
       grind
   · skip
     refine D ?_
     refine kR (s_impl_size_Entry (x.log.map eEntry)) ?_
     refine D ?_
     refine kD (s_impl_last x.log (by omega)) ?_
     refine D ?_
     refine cC (fun c2 => ?_) (fun c2 => ?_)
     · skip
       refine D ?_
       refine E ?_
       first
       | exact trivial
       | unfold nodeFault rangeOk listsOk rises idsOk due
         grind
     · skip
       refine D ?_
       refine kR (s_impl_in _ _ _) ?_
       refine D ?_
       refine cC (fun c3 => ?_) (fun c3 => ?_)
       · skip
         refine D ?_
         refine E ?_
         first
         | exact trivial
         | unfold nodeFault rangeOk listsOk rises idsOk due
           grind
       · skip
         refine D ?_
         refine cC (fun c4 => ?_) (fun c4 => ?_)
         · skip
           refine D ?_
           refine E ?_
           first
           | exact trivial
           | unfold nodeFault rangeOk listsOk rises idsOk due
             grind
         · skip
           refine D ?_
           refine L (α := Nat) (fun i => [(77, .int .i64 i)]) (fun i => []) (fun i => x.votes.length - i) (fun i => i ≤ x.votes.length ∧ ∀ j, j < i → isId x (x.votes.getD j zI_i64) = true ∧ (0 < j → x.votes.getD (j - 1) zI_i64 < x.votes.getD j zI_i64)) 0 [] (fun i hL => ?_) (hi := by exact ⟨Nat.zero_le _, fun j hj => absurd hj (by omega)⟩)
           obtain ⟨hI, hj⟩ := hL
           refine D ?_
           refine cC (fun c5 => ?_) (fun c5 => ?_)
           · skip
             refine D ?_
             refine kR (s_impl_Node_isId x (x.votes.getD i zI_i64)) ?_
             refine D ?_
             refine cC (fun c6 => ?_) (fun c6 => ?_)
             · skip
               refine D ?_
               refine E ?_
               first
               | exact trivial
               | unfold nodeFault rangeOk listsOk rises idsOk due
                 grind
             · skip
               refine D ?_
               refine N (i+1) [] (hi := ?_) (hm := ?_)
               · refine ⟨by omega, fun j hj2 => ?_⟩
                 rcases Nat.lt_or_ge j i with h | h
                 · exact hj j h
                 · rw [show j = i by omega]; grind
               · omega
           · skip
             obtain rfl : i = x.votes.length := by omega
             refine D ?_
             refine cC (fun c7 => ?_) (fun c7 => ?_)
             · skip
               refine D ?_
               refine kR (s_impl_size_int64 (x.next.map eI_i64)) ?_
               refine D ?_
               refine kRg (s_impl_size_int64 (x.match_.map eI_i64)) ?_
               refine D ?_
               refine cC (fun c8 => ?_) (fun c8 => ?_)
               · skip
                 refine D ?_
                 refine E ?_
                 first
                 | exact trivial
                 | unfold nodeFault rangeOk listsOk rises idsOk due
                   grind
               · skip
                 refine D ?_
                 refine kR (s_slices_ContainsFunc_int64 x.next 63 x.log.length (fun k => !inR k 1 (x.log.length + 1)) (by kernel_rfl) (fun v => s_impl_NodeFault_1 v _ (by omega) (by omega)) hx3) ?_
                 refine D ?_
                 refine cC (fun c9 => ?_) (fun c9 => ?_)
                 · skip
                   refine D ?_
                   refine E ?_
                   first
                   | exact trivial
                   | unfold nodeFault rangeOk listsOk rises idsOk due
                     grind
                 · skip
                   refine D ?_
                   refine kR (s_slices_ContainsFunc_int64 x.match_ 64 x.log.length (fun k => !inR k 0 x.log.length) (by kernel_rfl) (fun v => s_impl_NodeFault_2 v _) hx4) ?_
                   refine D ?_
                   refine cC (fun c10 => ?_) (fun c10 => ?_)
                   · skip
                     refine D ?_
                     refine E ?_
                     first
                     | exact trivial
                     | unfold nodeFault rangeOk listsOk rises idsOk due
                       grind
                   · skip
                     refine D ?_
                     refine cC (fun c11 => ?_) (fun c11 => ?_)
                     · skip
                       refine D ?_
                       refine E ?_
                       first
                       | exact trivial
                       | unfold nodeFault rangeOk listsOk rises idsOk due
                         grind
                     · skip
                       refine D ?_
                       refine E ?_
                       first
                       | exact trivial
                       | unfold nodeFault rangeOk listsOk rises idsOk due
                         grind
             · skip
               refine D ?_
               refine kR (s_impl_size_int64 (x.next.map eI_i64)) ?_
               refine D ?_
               refine kRg (s_impl_size_int64 (x.match_.map eI_i64)) ?_
               refine D ?_
               refine cC (fun c8 => ?_) (fun c8 => ?_)
               · skip
                 refine D ?_
                 refine E ?_
                 first
                 | exact trivial
                 | unfold nodeFault rangeOk listsOk rises idsOk due
                   grind
               · skip
                 refine D ?_
                 refine kR (s_slices_ContainsFunc_int64 x.next 63 x.log.length (fun k => !inR k 1 (x.log.length + 1)) (by kernel_rfl) (fun v => s_impl_NodeFault_1 v _ (by omega) (by omega)) hx3) ?_
                 refine D ?_
                 refine cC (fun c9 => ?_) (fun c9 => ?_)
                 · skip
                   refine D ?_
                   refine E ?_
                   first
                   | exact trivial
                   | unfold nodeFault rangeOk listsOk rises idsOk due
                     grind
                 · skip
                   refine D ?_
                   refine kR (s_slices_ContainsFunc_int64 x.match_ 64 x.log.length (fun k => !inR k 0 x.log.length) (by kernel_rfl) (fun v => s_impl_NodeFault_2 v _) hx4) ?_
                   refine D ?_
                   refine cC (fun c10 => ?_) (fun c10 => ?_)
                   · skip
                     refine D ?_
                     refine E ?_
                     first
                     | exact trivial
                     | unfold nodeFault rangeOk listsOk rises idsOk due
                       grind
                   · skip
                     refine D ?_
                     refine cC (fun c11 => ?_) (fun c11 => ?_)
                     · skip
                       refine D ?_
                       refine E ?_
                       first
                       | exact trivial
                       | unfold nodeFault rangeOk listsOk rises idsOk due
                         grind
                     · skip
                       refine D ?_
                       refine E ?_
                       first
                       | exact trivial
                       | unfold nodeFault rangeOk listsOk rises idsOk due
                         grind
theorem s_impl_MailFault (x : Node) (m : Mail) (hx : limN 2097152 x) (hm : limM 2097152 m) : SemX prog 46 [aS (eNode false x), aS (eMail false m)] [] [rI (if nodeFault x ≠ 0 then nodeFault x else mailFault x m)] [] := by
 refine goF [] [(13, 1, [16384], []), (13, 6, [16384], []), (13, 10, [16384], []), (13, 14, [16384], []), (13, 19, [16384], []), (13, 24, [16384], [])] [] func46 ?_
 have hm1 : m.entries.length ≤ 2097152 := hm
 refine D ?_
 refine kR (s_impl_NodeFault x hx) ?_
 refine D ?_
 refine cC (fun c0 => ?_) (fun c0 => ?_)
 · skip
   refine D ?_
   refine E ?_
   first
   | exact trivial
   | unfold mailFault mailForm mailLog mailZeros mailRange
     grind
 · skip
   refine D ?_
   refine kR (s_impl_in _ _ _) ?_
   refine D ?_
   refine cC (fun c1 => ?_) (fun c1 => ?_)
   · skip
     refine D ?_
     refine E ?_
     first
     | exact trivial
     | unfold mailFault mailForm mailLog mailZeros mailRange
       grind
   · skip
     refine D ?_
     refine kR (s_impl_Node_isId x m.from_) ?_
     refine D ?_
     refine kRg (s_impl_in _ _ _) ?_
     refine D ?_
     refine cC (fun c2 => ?_) (fun c2 => ?_)
     · skip
       refine D ?_
       refine E ?_
       first
       | exact trivial
       | unfold mailFault mailForm mailLog mailZeros mailRange
         grind
     · skip
       refine D ?_
       refine kR (s_impl_in _ _ _) ?_
       refine D ?_
       refine kRg (s_impl_in _ _ _) ?_
       refine D ?_
       refine kRg (s_impl_in _ _ _) ?_
       refine D ?_
       refine cC (fun c3 => ?_) (fun c3 => ?_)
       · skip
         refine D ?_
         refine E ?_
         first
         | exact trivial
         | unfold mailFault mailForm mailLog mailZeros mailRange
           grind
       · skip
         refine D ?_
         refine kR (s_impl_LogFault m.entries (by omega)) ?_
         refine D ?_
         refine cC (fun c4 => ?_) (fun c4 => ?_)
         · skip
           refine D ?_
           refine E ?_
           first
           | exact trivial
           | unfold mailFault mailForm mailLog mailZeros mailRange
             grind
         · skip
           refine D ?_
           refine kDg (s_impl_last m.entries (by omega)) ?_
           refine D ?_
           refine cC (fun c5 => ?_) (fun c5 => ?_)
           · skip
             refine D ?_
             refine cC (fun c8 => ?_) (fun c8 => ?_)
             · skip
               refine D ?_
               refine E ?_
               first
               | exact trivial
               | unfold mailFault mailForm mailLog mailZeros mailRange
                 grind
             · skip
               refine D ?_
               refine E ?_
               first
               | exact trivial
               | unfold mailFault mailForm mailLog mailZeros mailRange
                 grind
           · skip
             refine D ?_
             refine cC (fun c6 => ?_) (fun c6 => ?_)
             · skip
               refine D ?_
               refine cC (fun c8 => ?_) (fun c8 => ?_)
               · skip
                 refine D ?_
                 refine E ?_
                 first
                 | exact trivial
                 | unfold mailFault mailForm mailLog mailZeros mailRange
                   grind
               · skip
                 refine D ?_
                 refine E ?_
                 first
                 | exact trivial
                 | unfold mailFault mailForm mailLog mailZeros mailRange
                   grind
             · skip
               refine D ?_
               refine cC (fun c7 => ?_) (fun c7 => ?_)
               · skip
                 refine D ?_
                 refine cC (fun c8 => ?_) (fun c8 => ?_)
                 · skip
                   refine D ?_
                   refine E ?_
                   first
                   | exact trivial
                   | unfold mailFault mailForm mailLog mailZeros mailRange
                     grind
                 · skip
                   refine D ?_
                   refine E ?_
                   first
                   | exact trivial
                   | unfold mailFault mailForm mailLog mailZeros mailRange
                     grind
               · skip
                 refine D ?_
                 refine cC (fun c8 => ?_) (fun c8 => ?_)
                 · skip
                   refine D ?_
                   refine E ?_
                   first
                   | exact trivial
                   | unfold mailFault mailForm mailLog mailZeros mailRange
                     grind
                 · skip
                   refine D ?_
                   refine E ?_
                   first
                   | exact trivial
                   | unfold mailFault mailForm mailLog mailZeros mailRange
                     grind
theorem s_impl_size_Node (rows : List (List T)) : SemX prog 83 [.one (.t (.sl false 10 rows))] [] [.one (.int .i64 rows.length)] [] := by
 refine goF [] [] [] func83 ?_
 refine D ?_
 exact E trivial
theorem s_impl_Cluster_isPlace (x : Cluster) (n : Int) (hn : x.nodes.length ≤ 2097152) : SemX prog 84 [aT (.ptr (eCluster false x)), aI n] [] [rB (place x n)] [] := by
 refine goF [(24, ⟨some 1, none, none, none⟩)] [] [] func84 ?_
 refine D ?_
 refine kR (s_impl_size_Node (x.nodes.map (eNode false))) ?_
 refine D ?_
 refine kR (s_impl_in n 0 (x.nodes.length - 1)) ?_
 refine D ?_
 refine E ?_
 first
 | exact trivial
 | simp only [go_sem, place]
theorem s_impl_ClusterFault (x : Cluster) (hx : limC 2097152 x) : SemX prog 33 [aS (eCluster false x)] [] [rI (clusterFault x)] [] := by
 refine goF [] [(9, 1, [20480], []), (9, 6, [20480], []), (9, 8, [8192], []), (17, 1, [8192], []), (17, 3, [32768], []), (17, 6, [32768], [])] [] func33 ?_
 obtain ⟨⟨hn, hN⟩, ⟨hm, hM⟩, hw, hs⟩ := id hx
 refine D ?_
 refine kR (s_impl_size_Node (x.nodes.map (eNode false))) ?_
 refine D ?_
 refine kR (s_impl_in _ _ _) ?_
 refine D ?_
 refine cC (fun c0 => ?_) (fun c0 => ?_)
 · skip
   simp only [inR] at c0
   refine D ?_
   refine E ?_
   first
   | exact trivial
   | unfold clusterFault
     grind
 · skip
   simp only [inR] at c0
   refine D ?_
   refine L (α := Nat) (fun i => [(28, .int .i64 i)]) (fun i => []) (fun i => x.nodes.length - i) (fun i => i ≤ x.nodes.length ∧ scan (nodeAt x) x.nodes.length 0 = scan (nodeAt x) x.nodes.length i) 0 [] (fun i hL => ?_) (hi := by exact ⟨Nat.zero_le _, rfl⟩)
   obtain ⟨hI, he⟩ := hL
   refine D ?_
   refine cC (fun c1 => ?_) (fun c1 => ?_)
   · skip
     have hd := nodeAt_eq x i
     have hst := scan_lt (f := nodeAt x) (show i < x.nodes.length by omega)
     refine D ?_
     refine kR (s_impl_NodeFault (x.nodes.getD i zNode) ((all_getD zNode).2 hN i (by omega))) ?_
     refine D ?_
     refine cC (fun c2 => ?_) (fun c2 => ?_)
     · skip
       refine D ?_
       refine E ?_
       first
       | exact trivial
       | unfold clusterFault
         grind
     · skip
       refine D ?_
       refine kDg (s_impl_size_Node (x.nodes.map (eNode false))) ?_
       refine D ?_
       refine cC (fun c3 => ?_) (fun c3 => ?_)
       · skip
         refine D ?_
         refine E ?_
         first
         | exact trivial
         | unfold clusterFault
           grind
       · skip
         refine D ?_
         refine N (i+1) [] (hi := ?_) (hm := ?_)
         · refine ⟨by omega, ?_⟩
           rw [he, scan_lt (by omega), if_pos]
           rw [nodeAt_eq]
           grind
         · omega
   · skip
     have hs0 : scan (nodeAt x) x.nodes.length 0 = 0 := by rw [he, scan_ge (by omega)]
     refine D ?_
     refine L (α := Nat) (fun i => [(54, .int .i64 i)]) (fun i => []) (fun i => x.mails.length - i) (fun i => i ≤ x.mails.length ∧ scan (mailAt x) x.mails.length 0 = scan (mailAt x) x.mails.length i) 0 [] (fun i hL => ?_) (hi := by exact ⟨Nat.zero_le _, rfl⟩)
     obtain ⟨hI, he⟩ := hL
     refine D ?_
     refine cC (fun c4 => ?_) (fun c4 => ?_)
     · skip
       have hd := mailAt_eq x i
       have hst := scan_lt (f := mailAt x) (show i < x.mails.length by omega)
       refine D ?_
       refine kR (s_impl_Cluster_isPlace x _ hn) ?_
       refine D ?_
       refine cC (fun c5 => ?_) (fun c5 => ?_)
       · skip
         refine D ?_
         refine E ?_
         first
         | exact trivial
         | unfold clusterFault
           grind
       · skip
         have hp : place x (x.mails.getD i zMail).to_ = true := by grind
         have hp2 := place_iff.1 hp
         have hnf := (nodes_ok hs0 (i := (x.mails.getD i zMail).to_.toNat) (by omega)).1
         refine D ?_
         refine kD (s_impl_MailFault (x.nodes.getD (x.mails.getD i zMail).to_.toNat zNode) (x.mails.getD i zMail) ((all_getD zNode).2 hN (x.mails.getD i zMail).to_.toNat (by omega)) ((all_getD zMail).2 hM i (by omega))) ?_
         refine D ?_
         refine cC (fun c6 => ?_) (fun c6 => ?_)
         · skip
           refine D ?_
           refine E ?_
           first
           | exact trivial
           | unfold clusterFault
             grind
         · skip
           refine D ?_
           refine N (i+1) [] (hi := ?_) (hm := ?_)
           · refine ⟨by omega, ?_⟩
             rw [he, scan_lt (by omega), if_pos]
             rw [mailAt_eq]
             grind
           · omega
     · skip
       have hs1 : scan (mailAt x) x.mails.length 0 = 0 := by rw [he, scan_ge (by omega)]
       refine D ?_
       refine cC (fun c7 => ?_) (fun c7 => ?_)
       · skip
         refine D ?_
         refine E ?_
         first
         | exact trivial
         | unfold clusterFault
           grind
       · skip
         refine D ?_
         refine L (α := Nat) (fun i => [(87, .int .i64 i)]) (fun i => []) (fun i => x.wins.length - i) (fun i => i ≤ x.wins.length ∧ scan (winAt x) x.wins.length 0 = scan (winAt x) x.wins.length i) 0 [] (fun i hL => ?_) (hi := by exact ⟨Nat.zero_le _, rfl⟩)
         obtain ⟨hI, he⟩ := hL
         refine D ?_
         refine cC (fun c8 => ?_) (fun c8 => ?_)
         · skip
           have hd := winAt_eq x i
           have hst := scan_lt (f := winAt x) (show i < x.wins.length by omega)
           refine D ?_
           refine kR (s_impl_in _ _ _) ?_
           refine D ?_
           refine kRg (s_impl_Cluster_isPlace x _ hn) ?_
           refine D ?_
           refine cC (fun c9 => ?_) (fun c9 => ?_)
           · skip
             refine D ?_
             refine E ?_
             first
             | exact trivial
             | unfold clusterFault
               grind
           · skip
             refine D ?_
             refine N (i+1) [] (hi := ?_) (hm := ?_)
             · refine ⟨by omega, ?_⟩
               rw [he, scan_lt (by omega), if_pos]
               rw [winAt_eq]
               grind
             · omega
         · skip
           have hs2 : scan (winAt x) x.wins.length 0 = 0 := by rw [he, scan_ge (by omega)]
           refine D ?_
           refine L (α := Nat) (fun i => [(105, .int .i64 i)]) (fun i => []) (fun i => x.seals.length - i) (fun i => i ≤ x.seals.length ∧ scan (sealAt x) x.seals.length 0 = scan (sealAt x) x.seals.length i) 0 [] (fun i hL => ?_) (hi := by exact ⟨Nat.zero_le _, rfl⟩)
           obtain ⟨hI, he⟩ := hL
           refine D ?_
           refine cC (fun c10 => ?_) (fun c10 => ?_)
           · skip
             have hd := sealAt_eq x i
             have hst := scan_lt (f := sealAt x) (show i < x.seals.length by omega)
             refine D ?_
             refine kR (s_impl_in _ _ _) ?_
             refine D ?_
             refine cC (fun c11 => ?_) (fun c11 => ?_)
             · skip
               refine D ?_
               refine E ?_
               first
               | exact trivial
               | unfold clusterFault
                 grind
             · skip
               refine D ?_
               refine kR (s_impl_EntryFault _) ?_
               refine D ?_
               refine cC (fun c12 => ?_) (fun c12 => ?_)
               · skip
                 refine D ?_
                 refine E ?_
                 first
                 | exact trivial
                 | unfold clusterFault
                   grind
               · skip
                 refine D ?_
                 refine N (i+1) [] (hi := ?_) (hm := ?_)
                 · refine ⟨by omega, ?_⟩
                   rw [he, scan_lt (by omega), if_pos]
                   rw [sealAt_eq]
                   grind
                 · omega
           · skip
             have hs3 : scan (sealAt x) x.seals.length 0 = 0 := by rw [he, scan_ge (by omega)]
             refine D ?_
             refine E ?_
             first
             | exact trivial
             | unfold clusterFault
               grind
theorem s_impl_size_Seal (rows : List (List T)) : SemX prog 127 [aT (.sl false 10 rows)] [] [rI rows.length] [] := by
 refine goF [] [] [] func127 ?_
 refine D ?_
 refine E ?_
 first
 | exact trivial
 | exact rfl
theorem s_impl_Cluster_do_ok (x : Cluster) (hx : limC 2097152 x) (i : Nat) (hi : i < x.nodes.length) (r : NodeResult) (hr : limR 2097152 r) (hc : r.node.commit ≤ r.node.log.length) (hid : r.code = 0 → r.node.id = i) (h4 : x.wins.length ≤ 400) (hok : doOk x i r = true) : SemX prog 78 [.one (.ptr 0 0), aS (eNodeResult true r)] [.var (eCluster true x)] [rI 0] [.var (eCluster true (doC x i r))] := by
 refine goF [(61, ⟨some 6, none, none, some [24576]⟩), (76, ⟨some 2, none, none, none⟩)] [(4, 3, [1000000], []), (4, 5, [24576], []), (4, 6, [1000001], []), (4, 7, [1000001], []), (4, 8, [], [28672]), (4, 9, [28672, 1000001], [28672]), (5, 3, [1000000], []), (5, 5, [24576], []), (5, 6, [24576], []), (5, 7, [1000001], []), (5, 8, [1000001, 4101, 4104, 4105, 4106, 24576], [1000001, 4101, 4104, 4105, 4106, 24576]), (6, 4, [1000000], []), (6, 6, [16384], []), (6, 7, [1000002, 4107], [155648, 1000002, 4107]), (6, 10, [1000000], [1000000]), (12, 4, [1000000], []), (12, 6, [24576], []), (12, 8, [24576], []), (12, 10, [], [319488]), (12, 11, [1000003, 319488], [323584, 1000003, 319488]), (12, 14, [1000000], [1000000]), (13, 3, [1000000], []), (13, 4, [1000004], []), (13, 6, [24576], []), (14, 4, [1000000], []), (14, 6, [24576], []), (14, 8, [24576], []), (14, 12, [1000000], []), (14, 14, [1000001], []), (14, 15, [1000001], []), (14, 17, [], [438272]), (14, 18, [1000004, 438272], [442368, 1000004, 438272]), (14, 21, [1000000], [1000000])] [] func78 ?_
 obtain ⟨⟨hn, hN⟩, ⟨hm, hM⟩, hw, hs⟩ := id hx
 obtain ⟨hrn, hrs, hrm⟩ := id hr
 obtain ⟨hr1, hr2, hr3, hr4⟩ := id hrn
 refine D ?_
 refine cC (fun c0 => ?_) (fun c0 => ?_)
 · skip
   exfalso
   unfold doOk wonBy at hok
   grind
 · skip
   have hid2 := hid c0
   have hA := hid2
   refine D ?_
   refine cC (fun c1 => ?_) (fun c1 => ?_)
   · skip
     exfalso
     unfold doOk wonBy at hok
     grind
   · skip
     refine D ?_
     refine cC (fun c2 => ?_) (fun c2 => ?_)
     · skip
       refine D ?_
       refine cC (fun c3 => ?_) (fun c3 => ?_)
       · skip
         exfalso
         unfold doOk wonBy at hok
         grind
       · skip
         refine D ?_
         refine Ld [60] [] (α := Nat) (fun k => []) (fun k => [(1000000, .var [.ref 1000001 0 x.nodes.length, .ref 155648 0 (x.mails.length + r.send.length), .ref 323584 0 (x.wins.length + 1), .ref 1000004 0 k]), (1000004, .arr ⟨10, (sealsTo x.seals r.node k).map eSeal, 1, none⟩)]) (fun k => x.seals.length + r.node.log.length - k) (fun k => x.seals.length ≤ k ∧ k ≤ max x.seals.length r.node.commit.toNat) x.seals.length [] (fun k hL => ?_) (by (simp only [go_sem, hA, sealsTo_self x.seals r.node (Nat.le_refl _)] <;> and_intros <;> first | with_reducible exact rfl | omega | grind)) (by exact ⟨Nat.le_refl _, Nat.le_max_left _ _⟩)
         obtain ⟨hk1, hk2⟩ := hL
         have hL := sealsTo_len' x.seals r.node hk1 (by omega)
         have hT : List.take k ((sealsTo x.seals r.node k).map eSeal) = (sealsTo x.seals r.node k).map eSeal := List.take_of_length_le (by simp [hL])
         have hA := And.intro hA (And.intro hL (hT))
         refine D ?_
         refine kD (s_impl_size_Seal ((sealsTo x.seals r.node k).map eSeal)) ?_
         refine D ?_
         refine cC (fun c4 => ?_) (fun c4 => ?_)
         · skip
           refine D ?_
           refine lp_next (k+1) [(1000004,442368)] ?_ ?_ ?_
           · simp only [go_sem, hA] <;> and_intros <;> first | with_reducible exact rfl | (first | omega | (rw [sealsTo_succ x.seals r.node hk1 (by omega)]; simp [eSeal]))
           · omega
           · omega
         · skip
           refine D ?_
           refine E ?_
           have hw2 : wonBy x i r.node = true := by unfold wonBy; grind
           have hse := sealsTo_end x.seals r.node hk1 hk2 (by omega) hc
           simp [doC, doWins, hw2, hse, eNode, eWon, List.map_set, List.take_of_length_le, hid2]
     · skip
       refine D ?_
       refine Ld [60] [] (α := Nat) (fun k => []) (fun k => [(1000000, .var [.ref 1000001 0 x.nodes.length, .ref 155648 0 (x.mails.length + r.send.length), .ref 1000003 0 x.wins.length, .ref 1000004 0 k]), (1000004, .arr ⟨10, (sealsTo x.seals r.node k).map eSeal, 1, none⟩)]) (fun k => x.seals.length + r.node.log.length - k) (fun k => x.seals.length ≤ k ∧ k ≤ max x.seals.length r.node.commit.toNat) x.seals.length [] (fun k hL => ?_) (by (simp only [go_sem, hA, sealsTo_self x.seals r.node (Nat.le_refl _)] <;> and_intros <;> first | with_reducible exact rfl | omega | grind)) (by exact ⟨Nat.le_refl _, Nat.le_max_left _ _⟩)
       obtain ⟨hk1, hk2⟩ := hL
       have hL := sealsTo_len' x.seals r.node hk1 (by omega)
       have hT : List.take k ((sealsTo x.seals r.node k).map eSeal) = (sealsTo x.seals r.node k).map eSeal := List.take_of_length_le (by simp [hL])
       have hA := And.intro hA (And.intro hL (hT))
       refine D ?_
       refine kD (s_impl_size_Seal ((sealsTo x.seals r.node k).map eSeal)) ?_
       refine D ?_
       refine cC (fun c4 => ?_) (fun c4 => ?_)
       · skip
         refine D ?_
         refine lp_next (k+1) [(1000004,442368)] ?_ ?_ ?_
         · simp only [go_sem, hA] <;> and_intros <;> first | with_reducible exact rfl | (first | omega | (rw [sealsTo_succ x.seals r.node hk1 (by omega)]; simp [eSeal]))
         · omega
         · omega
       · skip
         refine D ?_
         refine E ?_
         have hw2 : wonBy x i r.node = false := by unfold wonBy; grind
         have hse := sealsTo_end x.seals r.node hk1 hk2 (by omega) hc
         simp [doC, doWins, hw2, hse, eNode, eWon, List.map_set, List.take_of_length_le, hid2]
theorem s_impl_Cluster_do_no (x : Cluster) (hx : limC 2097152 x) (i : Nat) (hi : i < x.nodes.length) (r : NodeResult) (hr : limR 2097152 r) (hc : r.node.commit ≤ r.node.log.length) (hid : r.code = 0 → r.node.id = i) (h4 : x.wins.length ≤ 400) (hok : doOk x i r = false) : SemX prog 78 [.one (.ptr 0 0), aS (eNodeResult true r)] [.var (eCluster true x)] [rI (if r.code ≠ 0 then r.code else 2)] [.var [.junk, .junk, .junk, .junk]] := by
 refine goF [(61, ⟨some 6, none, none, some [24576]⟩), (76, ⟨some 2, none, none, none⟩)] [(4, 3, [1000000], []), (4, 5, [24576], []), (4, 6, [1000001], []), (4, 7, [1000001], []), (4, 8, [], [28672]), (4, 9, [28672, 1000001], [28672]), (5, 3, [1000000], []), (5, 5, [24576], []), (5, 6, [24576], []), (5, 7, [1000001], []), (5, 8, [1000001, 4101, 4104, 4105, 4106, 24576], [1000001, 4101, 4104, 4105, 4106, 24576]), (6, 4, [1000000], []), (6, 6, [16384], []), (6, 7, [1000002, 4107], [155648, 1000002, 4107]), (6, 10, [1000000], [1000000]), (12, 6, [24576], []), (12, 8, [24576], []), (13, 6, [24576], []), (14, 6, [24576], []), (14, 8, [24576], [])] [] func78 ?_
 obtain ⟨⟨hn, hN⟩, ⟨hm, hM⟩, hw, hs⟩ := id hx
 obtain ⟨hrn, hrs, hrm⟩ := id hr
 obtain ⟨hr1, hr2, hr3, hr4⟩ := id hrn
 refine D ?_
 refine cC (fun c0 => ?_) (fun c0 => ?_)
 · skip
   refine D ?_
   refine E ?_
   first
   | exact trivial
   | simp [*]
 · skip
   have hid2 := hid c0
   have hA := hid2
   refine D ?_
   refine cC (fun c1 => ?_) (fun c1 => ?_)
   · skip
     refine D ?_
     refine E ?_
     first
     | exact trivial
     | simp [*]
   · skip
     refine D ?_
     refine cC (fun c2 => ?_) (fun c2 => ?_)
     · skip
       refine D ?_
       refine cC (fun c3 => ?_) (fun c3 => ?_)
       · skip
         refine D ?_
         refine E ?_
         first
         | exact trivial
         | simp [*]
       · skip
         exfalso
         unfold doOk wonBy at hok
         grind
     · skip
       exfalso
       unfold doOk wonBy at hok
       grind
theorem s_slices_Clone_Entry (xs : List Entry) (hl : xs.length ≤ 2097152) : SemX prog 65 [aT (.sl false 9 (xs.map eEntry))] [] [.one (.sl true 9 (xs.map eEntry))] [] := by
 refine goF [] [] [] func65 ?_
 refine D ?_
 refine RW_isn (fun b => xs.map eEntry ≠ [] → b = false) rfl rfl (by simp only [go_sem] <;> and_intros <;> first | with_reducible exact rfl | omega | with_reducible trivial | (intros; simp_all; done) | grind) (fun b hb => ?_)
 refine D ?_
 refine cC (fun c0 => ?_) (fun c0 => ?_)
 · skip
   have hx : xs = [] := by
     cases xs with
     | nil => rfl
     | cons a l => have := hb (by simp); rw [this] at c0; cases c0
   subst hx
   refine D ?_
   exact E trivial
 · skip
   refine D ?_
   exact E trivial
theorem s_slices_Clone_int64 (xs : List Int) (hl : xs.length ≤ 2097152) : SemX prog 95 [aT (.sl false 1 (xs.map eI_i64))] [] [.one (.sl true 1 (xs.map eI_i64))] [] := by
 refine goF [] [] [] func95 ?_
 refine D ?_
 refine RW_isn (fun b => xs.map eI_i64 ≠ [] → b = false) rfl rfl (by simp only [go_sem] <;> and_intros <;> first | with_reducible exact rfl | omega | with_reducible trivial | (intros; simp_all; done) | grind) (fun b hb => ?_)
 refine D ?_
 refine cC (fun c0 => ?_) (fun c0 => ?_)
 · skip
   have hx : xs = [] := by
     cases xs with
     | nil => rfl
     | cons a l => have := hb (by simp); rw [this] at c0; cases c0
   subst hx
   refine D ?_
   exact E trivial
 · skip
   refine D ?_
   exact E trivial
theorem s_impl_Node_copied (x : Node) (hx : limN 2097152 x) : SemX prog 47 [aS (eNode false x)] [] [.agg (eNode true x)] [] := by
 refine goF [] [(1, 1, [8192], []), (1, 2, [], [24576]), (1, 4, [8192], []), (1, 5, [], [36864]), (1, 7, [8192], []), (1, 8, [], [49152]), (1, 10, [8192], []), (1, 11, [], [61440]), (1, 13, [8192], [8192]), (1, 15, [8192], [8192]), (1, 17, [8192], [8192]), (1, 19, [8192], [8192])] [] func47 ?_
 refine D ?_
 refine kD (s_slices_Clone_Entry x.log hx.1) ?_
 refine D ?_
 refine kD (s_slices_Clone_int64 x.votes hx.2.1) ?_
 refine D ?_
 refine kD (s_slices_Clone_int64 x.next hx.2.2.1) ?_
 refine D ?_
 refine kD (s_slices_Clone_int64 x.match_ hx.2.2.2) ?_
 refine D ?_
 exact E trivial
theorem s_impl_copiedMail (x : Mail) (hx : limM 2097152 x) : SemX prog 89 [aS (eMail false x)] [] [.agg (eMail true x)] [] := by
 refine goF [] [] [] func89 ?_
 refine D ?_
 refine kR (s_slices_Clone_Entry x.entries hx) ?_
 refine D ?_
 exact E trivial
theorem s_slices_Clone_Won (xs : List Won) (hl : xs.length ≤ 2097152) : SemX prog 159 [aT (.sl false 2 (xs.map eWon))] [] [.one (.sl true 2 (xs.map eWon))] [] := by
 refine goF [] [] [] func159 ?_
 refine D ?_
 refine RW_isn (fun b => xs.map eWon ≠ [] → b = false) rfl rfl (by simp only [go_sem] <;> and_intros <;> first | with_reducible exact rfl | omega | with_reducible trivial | (intros; simp_all; done) | grind) (fun b hb => ?_)
 refine D ?_
 refine cC (fun c0 => ?_) (fun c0 => ?_)
 · skip
   have hx : xs = [] := by
     cases xs with
     | nil => rfl
     | cons a l => have := hb (by simp); rw [this] at c0; cases c0
   subst hx
   refine D ?_
   exact E trivial
 · skip
   refine D ?_
   exact E trivial
theorem s_slices_Clone_Seal (xs : List Seal) (hl : xs.length ≤ 2097152) : SemX prog 160 [aT (.sl false 10 (xs.map eSeal))] [] [.one (.sl true 10 (xs.map eSeal))] [] := by
 refine goF [] [] [] func160 ?_
 refine D ?_
 refine RW_isn (fun b => xs.map eSeal ≠ [] → b = false) rfl rfl (by simp only [go_sem] <;> and_intros <;> first | with_reducible exact rfl | omega | with_reducible trivial | (intros; simp_all; done) | grind) (fun b hb => ?_)
 refine D ?_
 refine cC (fun c0 => ?_) (fun c0 => ?_)
 · skip
   have hx : xs = [] := by
     cases xs with
     | nil => rfl
     | cons a l => have := hb (by simp); rw [this] at c0; cases c0
   subst hx
   refine D ?_
   exact E trivial
 · skip
   refine D ?_
   exact E trivial
theorem s_impl_Cluster_copied (x : Cluster) (hx : limC 2097152 x) : SemX prog 114 [aS (eCluster false x)] [] [.agg (eCluster true x)] [] := by
 refine goF [(30, ⟨some 4, some 61440, some (29, true), none⟩)] [(1, 1, [8192], []), (1, 2, [], [45056]), (1, 4, [8192], []), (1, 5, [], [57344]), (1, 6, [], [61440, 61441]), (1, 7, [], [16384]), (1, 8, [16384], [16384]), (5, 1, [16384], []), (5, 2, [24576], []), (5, 3, [], [106500, 106503, 106504, 106505]), (5, 4, [106500, 106503, 106504, 106505], [110592, 106500, 106503, 106504, 106505]), (5, 5, [61440, 110592], [114688, 61440, 110592]), (5, 7, [16384], [16384]), (10, 1, [16384], []), (10, 2, [32768], []), (10, 3, [], [167944]), (10, 4, [167944], [172032, 167944]), (10, 5, [61441, 172032], [176128, 61441, 172032]), (10, 7, [16384], [16384])] [] func114 ?_
 obtain ⟨⟨hn, hN⟩, ⟨hm, hM⟩, hw, hs⟩ := id hx
 refine D ?_
 refine kD (s_slices_Clone_Won x.wins hw) ?_
 refine D ?_
 refine kD (s_slices_Clone_Seal x.seals hs) ?_
 refine D ?_
 refine L (α := Nat) (fun i => [(18, .int .i64 i)]) (fun i => [(16384, .var [.ref 61440 0 i, .ref 61441 0 0, .ref 45056 0 x.wins.length, .ref 57344 0 x.seals.length]), (61440, .arr ⟨10, (x.nodes.take i).map (eNode true), 1, none⟩)]) (fun i => x.nodes.length - i) (fun i => i ≤ x.nodes.length) 0 [] (fun i hI => ?_)
 refine D ?_
 refine cC (fun c0 => ?_) (fun c0 => ?_)
 · skip
   refine D ?_
   refine kD (s_impl_Node_copied (x.nodes.getD i zNode) ((all_getD zNode).2 hN i (by omega))) ?_
   refine D ?_
   refine lp_next (i+1) [(61440,114688)] ?_ ?_ ?_
   · simp only [go_sem] <;> and_intros <;> first | with_reducible exact rfl | (first | omega | (rw [take_succ_map _ zNode (by omega)]; simp only [eNode]))
   · omega
   · omega
 · skip
   obtain rfl : i = x.nodes.length := by omega
   refine D ?_
   refine L (α := Nat) (fun i => [(33, .int .i64 i)]) (fun i => [(16384, .var [.ref 61440 0 x.nodes.length, .ref 61441 0 i, .ref 45056 0 x.wins.length, .ref 57344 0 x.seals.length]), (61441, .arr ⟨9, (x.mails.take i).map (eMail true), 1, none⟩)]) (fun i => x.mails.length - i) (fun i => i ≤ x.mails.length) 0 [] (fun i hI => ?_)
   refine D ?_
   refine cC (fun c1 => ?_) (fun c1 => ?_)
   · skip
     refine D ?_
     refine kD (s_impl_copiedMail (x.mails.getD i zMail) ((all_getD zMail).2 hM i (by omega))) ?_
     refine D ?_
     refine lp_next (i+1) [(61441,176128)] ?_ ?_ ?_
     · simp only [go_sem] <;> and_intros <;> first | with_reducible exact rfl | (first | omega | (rw [take_succ_map _ zMail (by omega)]; simp only [eMail]))
     · omega
     · omega
   · skip
     obtain rfl : i = x.mails.length := by omega
     refine D ?_
     exact E trivial
theorem s_impl_Cluster_result (x : Cluster) (c : Int) : SemX prog 115 [.one (.ptr 0 0), aI c] [.var (eCluster true x)] [.agg (eClusterResult true (resC c x))] [.var [.junk, .junk, .junk, .junk]] := by
 refine goF [] [] [] func115 ?_
 refine D ?_
 refine cC (fun c0 => ?_) (fun c0 => ?_)
 · skip
   refine D ?_
   refine E ?_
   first
   | exact trivial
   | simp [resC, bad, zCluster, *]
 · skip
   refine D ?_
   refine E ?_
   first
   | exact trivial
   | simp [resC, bad, zCluster, *]
theorem s_impl_Cluster_result_no (c : Int) (hc : c ≠ 0) : SemX prog 115 [.one (.ptr 0 0), aI c] [.var [.junk, .junk, .junk, .junk]] [.agg (eClusterResult true (bad c))] [.var [.junk, .junk, .junk, .junk]] := by
 refine goF [] [] [] func115 ?_
 refine D ?_
 refine cC (fun c0 => ?_) (fun c0 => ?_)
 · skip
   refine D ?_
   refine E ?_
   first
   | exact trivial
   | simp [bad, zCluster]
 · skip
   exfalso
   simp [hc] at c0
theorem s_impl_onNode_ok (x : Cluster) (hx : limC 2097152 x) (p : Int) (fn : Nat) (r : NodeResult) (hq : callB prog fn = true) (hf : ∀ n : Nat, p = n → n < x.nodes.length → SemX prog fn [aS (eNode false (x.nodes.getD n zNode))] [] [.agg (eNodeResult true r)] []) (hr : limR 2097152 r) (hc : r.node.commit ≤ r.node.log.length) (hid : ∀ n : Nat, p = n → n < x.nodes.length → clusterFault x = 0 → r.code = 0 → r.node.id = n) (hok : doOk x p.toNat r = true) : SemX prog 67 [aS (eCluster false x), aI p, .one (.fn fn [])] [] [.agg (eClusterResult true (atNode x p r))] [] := by
 refine goF [] [] [] func67 ?_
 obtain ⟨⟨hn, hN⟩, ⟨hm, hM⟩, hw, hs⟩ := id hx
 refine D ?_
 refine kR (s_impl_ClusterFault x hx) ?_
 refine D ?_
 refine kRg (s_impl_Cluster_isPlace x p hn) ?_
 refine D ?_
 refine cC (fun c0 => ?_) (fun c0 => ?_)
 · skip
   refine D ?_
   refine cT ?_
   refine D ?_
   refine E ?_
   have he : atNode x p r = bad 3 := by unfold atNode nodeGuard; grind
   simp [he, bad, zCluster]
 · skip
   refine D ?_
   refine cC (fun c1 => ?_) (fun c1 => ?_)
   · skip
     refine D ?_
     refine E ?_
     have he : atNode x p r = bad (clusterFault x) := by unfold atNode nodeGuard; grind
     simp [he, bad, zCluster]
   · skip
     have c0n : nodeGuard x p = 0 := by unfold nodeGuard; grind
     obtain ⟨hcf, n, rfl, hn2⟩ := guardN_iff c0n
     have hcw := cl_wins hcf
     have hid2 := hid n rfl hn2 hcf
     refine D ?_
     refine kR (s_impl_Cluster_copied x hx) ?_
     refine D ?_
     refine kR (hf n rfl hn2) ?_ hq
     refine D ?_
     refine kRk [36864] [126981, 126984, 126985, 126986, 126987] [98304, 98305, 98306, 98307] (s_impl_Cluster_do_ok x hx n hn2 r hr hc hid2 hcw.1 hok) ?_
     refine D ?_
     refine kRk [36864] [] [132096, 132097, 132098, 132099] (s_impl_Cluster_result (doC x n r) 0) ?_
     refine D ?_
     refine E ?_
     have hok2 : doOk x n r = true := hok
     have he : atNode x n r = ⟨0, doC x n r⟩ := by unfold atNode doR; rw [if_neg (by omega), if_pos hok]; rfl
     simp [he, resC]
theorem s_impl_onNode_no (x : Cluster) (hx : limC 2097152 x) (p : Int) (fn : Nat) (r : NodeResult) (hq : callB prog fn = true) (hf : ∀ n : Nat, p = n → n < x.nodes.length → SemX prog fn [aS (eNode false (x.nodes.getD n zNode))] [] [.agg (eNodeResult true r)] []) (hr : limR 2097152 r) (hc : r.node.commit ≤ r.node.log.length) (hid : ∀ n : Nat, p = n → n < x.nodes.length → clusterFault x = 0 → r.code = 0 → r.node.id = n) (hok : doOk x p.toNat r = false) : SemX prog 67 [aS (eCluster false x), aI p, .one (.fn fn [])] [] [.agg (eClusterResult true (atNode x p r))] [] := by
 refine goF [] [] [] func67 ?_
 obtain ⟨⟨hn, hN⟩, ⟨hm, hM⟩, hw, hs⟩ := id hx
 refine D ?_
 refine kR (s_impl_ClusterFault x hx) ?_
 refine D ?_
 refine kRg (s_impl_Cluster_isPlace x p hn) ?_
 refine D ?_
 refine cC (fun c0 => ?_) (fun c0 => ?_)
 · skip
   refine D ?_
   refine cT ?_
   refine D ?_
   refine E ?_
   have he : atNode x p r = bad 3 := by unfold atNode nodeGuard; grind
   simp [he, bad, zCluster]
 · skip
   refine D ?_
   refine cC (fun c1 => ?_) (fun c1 => ?_)
   · skip
     refine D ?_
     refine E ?_
     have he : atNode x p r = bad (clusterFault x) := by unfold atNode nodeGuard; grind
     simp [he, bad, zCluster]
   · skip
     have c0n : nodeGuard x p = 0 := by unfold nodeGuard; grind
     obtain ⟨hcf, n, rfl, hn2⟩ := guardN_iff c0n
     have hcw := cl_wins hcf
     have hid2 := hid n rfl hn2 hcf
     refine D ?_
     refine kR (s_impl_Cluster_copied x hx) ?_
     refine D ?_
     refine kR (hf n rfl hn2) ?_ hq
     refine D ?_
     refine kRk [36864] [126981, 126984, 126985, 126986, 126987] [98304, 98305, 98306, 98307] (s_impl_Cluster_do_no x hx n hn2 r hr hc hid2 hcw.1 hok) ?_
     refine D ?_
     refine kRk [36864] [] [] (s_impl_Cluster_result_no (if r.code ≠ 0 then r.code else 2) (by split <;> omega)) ?_
     refine D ?_
     refine E ?_
     have he : atNode x n r = bad (if r.code ≠ 0 then r.code else 2) := by unfold atNode doR; rw [if_neg (by omega), if_neg (by rw [hok]; simp)]
     simp [he]
theorem s_impl_onNode (x : Cluster) (hx : limC 2097152 x) (p : Int) (fn : Nat) (r : NodeResult) (hq : callB prog fn = true) (hf : ∀ n : Nat, p = n → n < x.nodes.length → SemX prog fn [aS (eNode false (x.nodes.getD n zNode))] [] [.agg (eNodeResult true r)] []) (hr : limR 2097152 r) (hc : r.node.commit ≤ r.node.log.length) (hid : ∀ n : Nat, p = n → n < x.nodes.length → clusterFault x = 0 → r.code = 0 → r.node.id = n) : SemX prog 67 [aS (eCluster false x), aI p, .one (.fn fn [])] [] [.agg (eClusterResult true (atNode x p r))] [] := by
  cases h : doOk x p.toNat r
  · exact s_impl_onNode_no x hx p fn r hq hf hr hc hid h
  · exact s_impl_onNode_ok x hx p fn r hq hf hr hc hid h
theorem s_impl_onNodeAsk_ok (x : Cluster) (hx : limC 2097152 x) (p : Int) (cl sq : Int) (cm : Cmd) (fn : Nat) (r : NodeResult) (hq : callB prog fn = true) (hf : ∀ n : Nat, p = n → n < x.nodes.length → SemX prog fn [aS (eNode false (x.nodes.getD n zNode)), aT (.ptr [.int .i64 cl]), aT (.ptr [.int .i64 sq]), aT (.ptr (eCmd cm))] [] [.agg (eNodeResult true r)] []) (hr : limR 2097152 r) (hc : r.node.commit ≤ r.node.log.length) (hid : ∀ n : Nat, p = n → n < x.nodes.length → clusterFault x = 0 → r.code = 0 → r.node.id = n) (hok : doOk x p.toNat r = true) : SemX prog 67 [aS (eCluster false x), aI p, .one (.fn fn [.t (.ptr [.int .i64 cl]), .t (.ptr [.int .i64 sq]), .t (.ptr (eCmd cm))])] [] [.agg (eClusterResult true (atNode x p r))] [] := by
 refine goF [] [] [] func67 ?_
 obtain ⟨⟨hn, hN⟩, ⟨hm, hM⟩, hw, hs⟩ := id hx
 refine D ?_
 refine kR (s_impl_ClusterFault x hx) ?_
 refine D ?_
 refine kRg (s_impl_Cluster_isPlace x p hn) ?_
 refine D ?_
 refine cC (fun c0 => ?_) (fun c0 => ?_)
 · skip
   refine D ?_
   refine cT ?_
   refine D ?_
   refine E ?_
   have he : atNode x p r = bad 3 := by unfold atNode nodeGuard; grind
   simp [he, bad, zCluster]
 · skip
   refine D ?_
   refine cC (fun c1 => ?_) (fun c1 => ?_)
   · skip
     refine D ?_
     refine E ?_
     have he : atNode x p r = bad (clusterFault x) := by unfold atNode nodeGuard; grind
     simp [he, bad, zCluster]
   · skip
     have c0n : nodeGuard x p = 0 := by unfold nodeGuard; grind
     obtain ⟨hcf, n, rfl, hn2⟩ := guardN_iff c0n
     have hcw := cl_wins hcf
     have hid2 := hid n rfl hn2 hcf
     refine D ?_
     refine kR (s_impl_Cluster_copied x hx) ?_
     refine D ?_
     refine kR (hf n rfl hn2) ?_ hq
     refine D ?_
     refine kRk [36864] [126981, 126984, 126985, 126986, 126987] [98304, 98305, 98306, 98307] (s_impl_Cluster_do_ok x hx n hn2 r hr hc hid2 hcw.1 hok) ?_
     refine D ?_
     refine kRk [36864] [] [132096, 132097, 132098, 132099] (s_impl_Cluster_result (doC x n r) 0) ?_
     refine D ?_
     refine E ?_
     have hok2 : doOk x n r = true := hok
     have he : atNode x n r = ⟨0, doC x n r⟩ := by unfold atNode doR; rw [if_neg (by omega), if_pos hok]; rfl
     simp [he, resC]
theorem s_impl_onNodeAsk_no (x : Cluster) (hx : limC 2097152 x) (p : Int) (cl sq : Int) (cm : Cmd) (fn : Nat) (r : NodeResult) (hq : callB prog fn = true) (hf : ∀ n : Nat, p = n → n < x.nodes.length → SemX prog fn [aS (eNode false (x.nodes.getD n zNode)), aT (.ptr [.int .i64 cl]), aT (.ptr [.int .i64 sq]), aT (.ptr (eCmd cm))] [] [.agg (eNodeResult true r)] []) (hr : limR 2097152 r) (hc : r.node.commit ≤ r.node.log.length) (hid : ∀ n : Nat, p = n → n < x.nodes.length → clusterFault x = 0 → r.code = 0 → r.node.id = n) (hok : doOk x p.toNat r = false) : SemX prog 67 [aS (eCluster false x), aI p, .one (.fn fn [.t (.ptr [.int .i64 cl]), .t (.ptr [.int .i64 sq]), .t (.ptr (eCmd cm))])] [] [.agg (eClusterResult true (atNode x p r))] [] := by
 refine goF [] [] [] func67 ?_
 obtain ⟨⟨hn, hN⟩, ⟨hm, hM⟩, hw, hs⟩ := id hx
 refine D ?_
 refine kR (s_impl_ClusterFault x hx) ?_
 refine D ?_
 refine kRg (s_impl_Cluster_isPlace x p hn) ?_
 refine D ?_
 refine cC (fun c0 => ?_) (fun c0 => ?_)
 · skip
   refine D ?_
   refine cT ?_
   refine D ?_
   refine E ?_
   have he : atNode x p r = bad 3 := by unfold atNode nodeGuard; grind
   simp [he, bad, zCluster]
 · skip
   refine D ?_
   refine cC (fun c1 => ?_) (fun c1 => ?_)
   · skip
     refine D ?_
     refine E ?_
     have he : atNode x p r = bad (clusterFault x) := by unfold atNode nodeGuard; grind
     simp [he, bad, zCluster]
   · skip
     have c0n : nodeGuard x p = 0 := by unfold nodeGuard; grind
     obtain ⟨hcf, n, rfl, hn2⟩ := guardN_iff c0n
     have hcw := cl_wins hcf
     have hid2 := hid n rfl hn2 hcf
     refine D ?_
     refine kR (s_impl_Cluster_copied x hx) ?_
     refine D ?_
     refine kR (hf n rfl hn2) ?_ hq
     refine D ?_
     refine kRk [36864] [126981, 126984, 126985, 126986, 126987] [98304, 98305, 98306, 98307] (s_impl_Cluster_do_no x hx n hn2 r hr hc hid2 hcw.1 hok) ?_
     refine D ?_
     refine kRk [36864] [] [] (s_impl_Cluster_result_no (if r.code ≠ 0 then r.code else 2) (by split <;> omega)) ?_
     refine D ?_
     refine E ?_
     have he : atNode x n r = bad (if r.code ≠ 0 then r.code else 2) := by unfold atNode doR; rw [if_neg (by omega), if_neg (by rw [hok]; simp)]
     simp [he]
theorem s_impl_onNodeAsk (x : Cluster) (hx : limC 2097152 x) (p : Int) (cl sq : Int) (cm : Cmd) (fn : Nat) (r : NodeResult) (hq : callB prog fn = true) (hf : ∀ n : Nat, p = n → n < x.nodes.length → SemX prog fn [aS (eNode false (x.nodes.getD n zNode)), aT (.ptr [.int .i64 cl]), aT (.ptr [.int .i64 sq]), aT (.ptr (eCmd cm))] [] [.agg (eNodeResult true r)] []) (hr : limR 2097152 r) (hc : r.node.commit ≤ r.node.log.length) (hid : ∀ n : Nat, p = n → n < x.nodes.length → clusterFault x = 0 → r.code = 0 → r.node.id = n) : SemX prog 67 [aS (eCluster false x), aI p, .one (.fn fn [.t (.ptr [.int .i64 cl]), .t (.ptr [.int .i64 sq]), .t (.ptr (eCmd cm))])] [] [.agg (eClusterResult true (atNode x p r))] [] := by
  cases h : doOk x p.toNat r
  · exact s_impl_onNodeAsk_no x hx p cl sq cm fn r hq hf hr hc hid h
  · exact s_impl_onNodeAsk_ok x hx p cl sq cm fn r hq hf hr hc hid h
theorem s_impl_Node_isQuorum (x : Node) (c : Int) (h0 : 0 ≤ c) (h1 : c ≤ 4194304) : SemX prog 98 [aT (.ptr (eNode false x)), aI c] [] [rB (quor x c)] [] := by
 refine goF [(14, ⟨some 1, none, none, none⟩)] [] [] func98 ?_
 refine D ?_
 refine E ?_
 first
 | exact trivial
 | simp only [go_sem, quor]
theorem s_impl_Node_agree (x : Node) (hx : limN 2097152 x) (h0 : 0 ≤ x.commit) (h1 : x.commit ≤ x.log.length) : SemX prog 102 [.one (.ptr 0 0)] [.var (eNode true x)] [] [.var (eNode true (agreed x))] := by
 refine goF [(38, ⟨some 1, none, none, none⟩), (66, ⟨some 1, none, none, none⟩), (88, ⟨some 1, none, none, none⟩)] [(10, 2, [1000000, 1000005, 1000008, 1000009, 1000010], []), (10, 7, [1000000], []), (10, 10, [1000005], []), (10, 12, [1000005], []), (10, 16, [1000000], [])] [] func102 ?_
 obtain ⟨hx1, hx2, hx3, hx4⟩ := id hx
 refine D ?_
 refine kR (s_impl_size_Entry (x.log.map eEntry)) ?_
 refine D ?_
 refine L (α := Nat) (fun n => [(2, .int .i64 n)]) (fun n => []) (fun n => n) (fun n => n ≤ x.log.length ∧ x.commit ≤ n ∧ agI x = agN x x.commit.toNat n) x.log.length [] (fun n hL => ?_) (hi := by exact ⟨Nat.le_refl _, h1, rfl⟩)
 obtain ⟨hn, hc, ha⟩ := hL
 refine D ?_
 refine cC (fun c0 => ?_) (fun c0 => ?_)
 · skip
   refine D ?_
   refine L (α := Nat) (fun j => [(3, .int .i64 (cntGe (x.match_.take j) n)), (24, .int .i64 j)]) (fun j => []) (fun j => x.match_.length - j) (fun j => j ≤ x.match_.length) 0 [] (fun j hL => ?_) (by (simp only [go_sem] <;> and_intros <;> first | with_reducible exact rfl | (simp [cntGe]; done) | omega))
   obtain hj := hL
   have hcb := cntGe_take_le x.match_ n j
   refine D ?_
   refine cC (fun c1 => ?_) (fun c1 => ?_)
   · skip
     refine D ?_
     refine cC (fun c2 => ?_) (fun c2 => ?_)
     · skip
       refine D ?_
       refine lp_next (j+1) [] ?_ ?_ ?_
       · simp only [go_sem] <;> and_intros <;> first | with_reducible exact rfl | (first | omega | (refine int_eq ?_; rw [cntGe_succ (by omega)]; first | (rw [if_pos (by assumption)]; omega) | (rw [if_neg (by assumption)]; omega)))
       · omega
       · omega
     · skip
       refine D ?_
       refine lp_next (j+1) [] ?_ ?_ ?_
       · simp only [go_sem] <;> and_intros <;> first | with_reducible exact rfl | (first | omega | (refine int_eq ?_; rw [cntGe_succ (by omega)]; first | (rw [if_pos (by assumption)]; omega) | (rw [if_neg (by assumption)]; omega)))
       · omega
       · omega
   · skip
     obtain rfl : j = x.match_.length := by omega
     refine D ?_
     refine kD (s_impl_Node_isQuorum x (cntGe x.match_ n) (by omega) (by have := cntGe_le x.match_ n; omega)) ?_
     refine D ?_
     refine cC (fun c3 => ?_) (fun c3 => ?_)
     · skip
       refine D ?_
       refine E ?_
       have e : agI x = n := by rw [ha, agN_ok x (by omega) (by unfold agOk; simp_all)]
       simp only [agreed, e]
     · skip
       refine D ?_
       refine lp_next (n - 1) [] ?_ ?_ ?_
       · simp only [go_sem] <;> and_intros <;> first | with_reducible exact rfl | (first | omega | (refine int_eq ?_; omega))
       · refine ⟨by omega, by omega, ?_⟩
         rw [ha, agN_no x (by omega) (by unfold agOk; simp_all)]
       · omega
 · skip
   have hn2 : (n : Int) = x.commit := by omega
   refine D ?_
   refine E ?_
   have e : agI x = x.commit := by rw [ha, agN_le x (c := x.commit.toNat) (n := n) (by omega)]; omega
   simp only [agreed, e]
theorem s_impl_leadFault (x : Node) (hx : limN 2097152 x) : SemX prog 116 [aS (eNode false x)] [] [rI (leadF x)] [] := by
 refine goF [] [] [] func116 ?_
 refine D ?_
 refine kR (s_impl_NodeFault x hx) ?_
 refine D ?_
 refine cC (fun c0 => ?_) (fun c0 => ?_)
 · skip
   refine D ?_
   refine E ?_
   first
   | exact trivial
   | unfold leadF
     grind
 · skip
   refine D ?_
   refine E ?_
   first
   | exact trivial
   | unfold leadF
     grind
section
attribute [local go_sem] asked set_map_I app_map_E
theorem s_impl_AskNode (x : Node) (hx2 : limN 2097152 x) (e : Entry) : SemX prog 69 [aS (eNode false x), aS (eEntry e)] [] [.agg (eNodeResult true (askNode x e))] [] := by
 refine goF [(108, ⟨some 1, none, none, none⟩)] [(12, 1, [28672], []), (12, 3, [12288], []), (12, 5, [28672], []), (12, 7, [12288], []), (12, 9, [28672], []), (12, 10, [155648], []), (12, 12, [28672], []), (12, 13, [155648], []), (12, 15, [135177], []), (12, 16, [135177], [135177]), (12, 17, [135176], []), (12, 18, [135176], [135176])] [] func69 ?_
 obtain ⟨hx3, hx4, hx5, hx6⟩ := id hx2
 refine D ?_
 refine kR (s_impl_leadFault x hx2) ?_
 refine D ?_
 refine cC (fun c0 => ?_) (fun c0 => ?_)
 · skip
   obtain ⟨nf0, nr⟩ := leadF_ok c0
   refine D ?_
   refine kR (s_impl_EntryFault e) ?_
   refine D ?_
   refine cC (fun c1 => ?_) (fun c1 => ?_)
   · skip
     refine D ?_
     refine E ?_
     have he : askNode x e = badN (entryFault e) := by unfold askNode; grind
     simp [he, badN, zNode, asked]
   · skip
     refine D ?_
     refine cC (fun c2 => ?_) (fun c2 => ?_)
     · skip
       refine D ?_
       refine E ?_
       have he : askNode x e = badN 1 := by unfold askNode; grind
       simp [he, badN, zNode, asked]
     · skip
       refine D ?_
       refine cC (fun c3 => ?_) (fun c3 => ?_)
       · skip
         refine D ?_
         refine E ?_
         have he : askNode x e = badN 2 := by unfold askNode; grind
         simp [he, badN, zNode, asked]
       · skip
         obtain ⟨⟨p1, p2, p3, p4, p5, p6, p7, p8⟩, p9, _, ⟨p10, p11⟩, _⟩ := node_ok (x := x) (by omega)
         obtain ⟨l1, l2⟩ := node_lead (x := x) (by omega) (by omega)
         have l3 := log_le p9
         refine D ?_
         refine kR (s_impl_Node_copied x hx2) ?_
         refine D ?_
         refine kD (s_impl_size_Entry ((x.log ++ [e]).map eEntry)) ?_
         refine D ?_
         refine kD (s_impl_size_Entry ((x.log ++ [e]).map eEntry)) ?_
         refine D ?_
         refine kRk [28672] [] [155648, 135175, 135176, 135177] (s_impl_Node_agree (asked x e) ⟨by simp [asked]; omega, by simpa [asked] using hx2.2.1, by simpa [asked] using hx2.2.2.1, by simpa [asked] using hx2.2.2.2⟩ (by simpa [asked] using p10) (by simp [asked]; omega)) ?_
         refine D ?_
         refine E ?_
         have he : askNode x e = ⟨0, agreed (asked x e), []⟩ := by unfold askNode; grind
         simp [he, badN, zNode, asked]
 · skip
   refine D ?_
   refine cC (fun c1 => ?_) (fun c1 => ?_)
   · skip
     refine D ?_
     refine E ?_
     have he : askNode x e = badN (leadF x) := by unfold askNode leadF at *; grind
     simp [he, badN, zNode]
   · skip
     exact absurd c1 c0
end
theorem s_impl_AskAt_1 (x : Node) (hx2 : limN 2097152 x) (cl sq : Int) (cm : Cmd) : SemX prog 68 [aS (eNode false x), aT (.ptr [.int .i64 cl]), aT (.ptr [.int .i64 sq]), aT (.ptr (eCmd cm))] [] [.agg (eNodeResult true (askNode x ⟨x.term, cl, sq, cm⟩))] [] := by
 refine goF [] [] [] func68 ?_
 refine D ?_
 refine kR (s_impl_AskNode x hx2 ⟨x.term, cl, sq, cm⟩) ?_
 refine D ?_
 exact E trivial
theorem s_impl_AskAt (x : Cluster) (hx : limC 2097152 x) (p : Int) (cl sq : Int) (cm : Cmd) : SemX prog 25 [aS (eCluster false x), aI p, aI cl, aI sq, aS (eCmd cm)] [] [.agg (eClusterResult true (atNode x p (askNode (x.nodes.getD p.toNat zNode) ⟨(x.nodes.getD p.toNat zNode).term, cl, sq, cm⟩)))] [] := by
 refine goF [] [] [] func25 ?_
 obtain ⟨⟨hn, hN⟩, ⟨hm, hM⟩, hw, hs⟩ := id hx
 refine D ?_
 refine kR (s_impl_onNodeAsk x hx p cl sq cm 68 (askNode (x.nodes.getD p.toNat zNode) ⟨(x.nodes.getD p.toNat zNode).term, cl, sq, cm⟩) (by kernel_rfl) (by rintro n rfl hn2; exact s_impl_AskAt_1 _ ((all_getD zNode).2 hN n hn2) cl sq cm) (ask_lim (by omega) (lim_getD hN _) _) (ask_commit _ _) (by rintro n rfl hn2 hcf h; exact (ask_id h).trans (cl_nodes hcf hn2).2.1)) ?_
 refine D ?_
 exact E trivial
theorem s_impl_Node_others (x y z : Node) (hp : 0 ≤ x.peers) (hp2 : x.peers ≤ 5) (fn : Nat) (R : Nat → List Mail) (hR : ∀ i, (R i).length ≤ i) (hq : callB prog fn = true) (hf : ∀ i : Nat, (i : Int) < x.peers → (i : Int) ≠ x.id → SemX prog fn [aI i, aT (.ptr (eNode false y)), aT (.ptr (eNode false z)), .one (.ptr 0 0)] [.var [.sl true 9 ((R i).map (eMail true))]] [] [.var [.sl true 9 ((R (i + 1)).map (eMail true))]]) (hs : ∀ i : Nat, (i : Int) = x.id → R (i + 1) = R i) : SemX prog 123 [aT (.ptr (eNode false x)), .one (.fn fn [.t (.ptr (eNode false y)), .t (.ptr (eNode false z)), .ptr 0 0])] [.var [.sl true 9 ((R 0).map (eMail true))]] [] [.var [.sl true 9 ((R x.peers.toNat).map (eMail true))]] := by
 refine goF [(44, ⟨some 1, none, none, none⟩)] [] [] func123 ?_
 refine D ?_
 refine L (α := Nat) (fun i => [(9, .int .i64 i)]) (fun i => [(1000000, .var [.ref 1000001 0 (R i).length]), (1000001, .arr ⟨9, (R i).map (eMail true), 1, none⟩)]) (fun i => x.peers.toNat - i) (fun i => (i : Int) ≤ x.peers) 0 [] (fun i hI => ?_) (hi := by omega)
 refine D ?_
 refine cC (fun c0 => ?_) (fun c0 => ?_)
 · skip
   refine D ?_
   refine cC (fun c1 => ?_) (fun c1 => ?_)
   · skip
     refine D ?_
     refine kRk [1000000] [] [1000001] (hf i (by omega) (by assumption)) ?_ hq
     refine D ?_
     refine lp_next (i+1) [(1000001,87040)] ?_ ?_ ?_
     · simp only [go_sem] <;> and_intros <;> first | with_reducible exact rfl | (first | omega | (rw [hs i (by assumption)]))
     · omega
     · omega
   · skip
     refine D ?_
     refine lp_next (i+1) [] ?_ ?_ ?_
     · simp only [go_sem] <;> and_intros <;> first | with_reducible exact rfl | (first | omega | (rw [hs i (by assumption)]))
     · omega
     · omega
 · skip
   have hi : i = x.peers.toNat := by omega
   subst hi
   refine D ?_
   exact E trivial
theorem s_impl_Node_others_2 (x y z : Node) (hp : 0 ≤ x.peers) (hp2 : x.peers ≤ 5) (fn : Nat) (R : Nat → List Mail) (hR : ∀ i, (R i).length ≤ i) (hq : callB prog fn = true) (hf : ∀ i : Nat, (i : Int) < x.peers → (i : Int) ≠ x.id → SemX prog fn [aI i, .one (.ptr 0 0), aT (.ptr (eNode false y)), aT (.ptr (eNode false z))] [.var [.sl true 9 ((R i).map (eMail true))]] [] [.var [.sl true 9 ((R (i + 1)).map (eMail true))]]) (hs : ∀ i : Nat, (i : Int) = x.id → R (i + 1) = R i) : SemX prog 123 [aT (.ptr (eNode false x)), .one (.fn fn [.ptr 0 0, .t (.ptr (eNode false y)), .t (.ptr (eNode false z))])] [.var [.sl true 9 ((R 0).map (eMail true))]] [] [.var [.sl true 9 ((R x.peers.toNat).map (eMail true))]] := by
 refine goF [(44, ⟨some 1, none, none, none⟩)] [] [] func123 ?_
 refine D ?_
 refine L (α := Nat) (fun i => [(9, .int .i64 i)]) (fun i => [(1000000, .var [.ref 1000001 0 (R i).length]), (1000001, .arr ⟨9, (R i).map (eMail true), 1, none⟩)]) (fun i => x.peers.toNat - i) (fun i => (i : Int) ≤ x.peers) 0 [] (fun i hI => ?_) (hi := by omega)
 refine D ?_
 refine cC (fun c0 => ?_) (fun c0 => ?_)
 · skip
   refine D ?_
   refine cC (fun c1 => ?_) (fun c1 => ?_)
   · skip
     refine D ?_
     refine kRk [1000000] [] [1000001] (hf i (by omega) (by assumption)) ?_ hq
     refine D ?_
     refine lp_next (i+1) [(1000001,87040)] ?_ ?_ ?_
     · simp only [go_sem] <;> and_intros <;> first | with_reducible exact rfl | (first | omega | (rw [hs i (by assumption)]))
     · omega
     · omega
   · skip
     refine D ?_
     refine lp_next (i+1) [] ?_ ?_ ?_
     · simp only [go_sem] <;> and_intros <;> first | with_reducible exact rfl | (first | omega | (rw [hs i (by assumption)]))
     · omega
     · omega
 · skip
   have hi : i = x.peers.toNat := by omega
   subst hi
   refine D ?_
   exact E trivial
theorem s_impl_SpreadNode_1 (x : Node) (hx : limN 2097152 x) (i k : Nat) (hi : i < x.next.length) (hk : x.next.getD i zI_i64 = k + 1) (hk2 : k ≤ x.log.length) (R : List (List T)) (hR : R.length ≤ 100) : SemX prog 124 [aI i, aT (.ptr (eNode false x)), aT (.ptr (eNode false x)), .one (.ptr 0 0)] [.var [.sl true 9 R]] [] [.var [.sl true 9 (R ++ [eMail true (spreadM x i k)])]] := by
 refine goF [(26, ⟨some 1, none, none, none⟩), (68, ⟨some 1, none, none, none⟩)] [(3, 10, [], [163840]), (3, 12, [28672], [28672])] [] func124 ?_
 obtain ⟨hx1, hx2, hx3, hx4⟩ := id hx
 have hmin : (if (x.log.length : Int) < k + 4 then (x.log.length : Int) else k + 4) = ((min x.log.length (k + 4) : Nat) : Int) := by split <;> omega
 have hA := And.intro hk (hmin)
 refine D ?_
 refine kR (s_impl_last (x.log.take k) (by simp; omega)) ?_
 refine D ?_
 refine kD (s_impl_size_Entry (x.log.map eEntry)) ?_
 refine D ?_
 refine kD (s_slices_Clone_Entry ((x.log.take (min x.log.length (k + 4))).drop k) (by simp; omega)) ?_
 refine D ?_
 refine E ?_
 first
 | exact trivial
 | simp [spreadM, take_drop_take, List.take_of_length_le]
theorem sp_step (x : Node) (hx : limN 2097152 x) (nf0 : nodeFault x = 0) (nr : x.role = 2) (hp : x.peers ≤ 5) (i : Nat) (h1 : (i : Int) < x.peers) (h2 : (i : Int) ≠ x.id) : SemX prog 124 [aI i, aT (.ptr (eNode false x)), aT (.ptr (eNode false x)), .one (.ptr 0 0)] [.var [.sl true 9 ((spreads x i).map (eMail true))]] [] [.var [.sl true 9 ((spreads x (i + 1)).map (eMail true))]] := by
  obtain ⟨n1, n2, n3, n4, _⟩ := next_ok nf0 nr h1
  have hl := spreads_len x i
  have := s_impl_SpreadNode_1 x hx i (nextK x i) n1 n3 n4 ((spreads x i).map (eMail true)) (by simp; omega)
  rw [spreads_succ h2, List.map_append]
  exact this
theorem s_impl_SpreadNode (x : Node) (hx : limN 2097152 x) : SemX prog 74 [aS (eNode false x)] [] [.agg (eNodeResult true (spreadNode x))] [] := by
 refine goF [] [] [] func74 ?_
 obtain ⟨hx1, hx2, hx3, hx4⟩ := id hx
 refine D ?_
 refine kR (s_impl_leadFault x hx) ?_
 refine D ?_
 refine cC (fun c0 => ?_) (fun c0 => ?_)
 · skip
   refine D ?_
   refine E ?_
   have he : spreadNode x = badN (leadF x) := by unfold spreadNode; rw [if_pos c0]
   simp [he, badN, zNode]
 · skip
   obtain ⟨nf0, nr⟩ := leadF_ok c0
   obtain ⟨⟨p1, p2, p3, p4, _⟩, _⟩ := node_ok nf0
   refine D ?_
   refine kR (s_impl_Node_copied x hx) ?_
   refine D ?_
   refine kRk [24576] [] [61440] (s_impl_Node_others x x x (by omega) (by omega) 124 (spreads x) (spreads_len x) (by kernel_rfl) (fun i h1 h2 => sp_step x hx nf0 nr (by omega) i h1 h2) (fun i h => spreads_skip h)) ?_
   refine D ?_
   refine E ?_
   have he : spreadNode x = ⟨0, x, spreads x x.peers.toNat⟩ := by unfold spreadNode; rw [if_neg (by omega)]
   simp [he]
theorem s_impl_SpreadAt (x : Cluster) (hx : limC 2097152 x) (p : Int) : SemX prog 27 [aS (eCluster false x), aI p] [] [.agg (eClusterResult true (atNode x p (spreadNode (x.nodes.getD p.toNat zNode))))] [] := by
 refine goF [] [] [] func27 ?_
 obtain ⟨⟨hn, hN⟩, ⟨hm, hM⟩, hw, hs⟩ := id hx
 refine D ?_
 refine kR (s_impl_onNode x hx p 74 (spreadNode (x.nodes.getD p.toNat zNode)) (by kernel_rfl) (by rintro n rfl hn2; exact s_impl_SpreadNode _ ((all_getD zNode).2 hN n hn2)) (spread_lim (by omega) (lim_getD hN _)) (spread_commit _) (by rintro n rfl hn2 hcf h; exact (spread_id h).trans (cl_nodes hcf hn2).2.1)) ?_
 refine D ?_
 exact E trivial
theorem s_impl_size_Mail (rows : List (List T)) : SemX prog 125 [.one (.t (.sl false 9 rows))] [] [.one (.int .i64 rows.length)] [] := by
 refine goF [] [] [] func125 ?_
 refine D ?_
 exact E trivial
theorem s_impl_CopyMail_1 (N R W S : List (List T)) (m : Mail) (hm : limM 2097152 m) (hR : R.length ≤ 2097152) : SemX prog 88 [.one (.ptr 0 0), aS (eMail false m)] [.var [.sl true 10 N, .sl true 9 R, .sl true 2 W, .sl true 10 S]] [rI (if R.length = 80 then 2 else 0)] [.var [.sl true 10 N, .sl true 9 (if R.length = 80 then R else R ++ [eMail true m]), .sl true 2 W, .sl true 10 S]] := by
 refine goF [] [(3, 4, [1000000], []), (3, 5, [16384], []), (3, 6, [], [73736]), (3, 7, [73736], [77824, 73736]), (3, 8, [1000002, 77824], [81920, 1000002, 77824]), (3, 11, [1000000], [1000000])] [] func88 ?_
 refine D ?_
 refine cC (fun c0 => ?_) (fun c0 => ?_)
 · skip
   refine D ?_
   refine E ?_
   have hc : R.length = 80 := by omega
   simp [hc, List.take_of_length_le]
 · skip
   refine D ?_
   refine kD (s_impl_copiedMail m hm) ?_
   refine D ?_
   refine E ?_
   have hc : ¬ R.length = 80 := by omega
   simp [hc, List.take_of_length_le]
theorem s_impl_CopyMail_1a (N R W S : List (List T)) (m : Mail) (hm : limM 2097152 m) (hR : R.length = 80) : SemX prog 88 [.one (.ptr 0 0), aS (eMail false m)] [.var [.sl true 10 N, .sl true 9 R, .sl true 2 W, .sl true 10 S]] [rI 2] [.var [.sl true 10 N, .sl true 9 R, .sl true 2 W, .sl true 10 S]] := by
  have := s_impl_CopyMail_1 N R W S m hm (by omega)
  simpa only [hR, if_true] using this
theorem s_impl_CopyMail_1b (N R W S : List (List T)) (m : Mail) (hm : limM 2097152 m) (hl : R.length ≤ 2097152) (hR : R.length ≠ 80) : SemX prog 88 [.one (.ptr 0 0), aS (eMail false m)] [.var [.sl true 10 N, .sl true 9 R, .sl true 2 W, .sl true 10 S]] [rI 0] [.var [.sl true 10 N, .sl true 9 (R ++ [eMail true m]), .sl true 2 W, .sl true 10 S]] := by
  have := s_impl_CopyMail_1 N R W S m hm hl
  simpa only [hR, if_false] using this
theorem s_slices_Delete_Mail (R : List (List T)) (i j : Nat) (hij : i < j) (hj : j ≤ R.length) (hl : R.length ≤ 2097152) (hs : cpRows none (R.drop j) = True) (hn : T.noShR (R.take i ++ R.drop j) = True) : SemX prog 126 [.one (.t (.sl true 9 R)), aI i, aI j] [] [.one (.sl true 9 (R.take i ++ R.drop j))] [] := by
 refine goF [(54, ⟨some 7, none, none, none⟩)] [(5, 2, [0], []), (5, 5, [0], []), (5, 6, [0], [0])] [] func126 ?_
 have hA := hs
 refine D ?_
 refine cC (fun c0 => ?_) (fun c0 => ?_)
 · skip
   omega
 · skip
   refine D ?_
   refine E ?_
   rw [if_pos (by omega)]
   exact ⟨congrArg (fun r => [TV.one (T.sl true 9 r)]) (del_rowsR R (by omega) hj _ _ _), rfl, rfl⟩
theorem s_impl_Cluster_drop (N R W S : List (List T)) (n : Nat) (hR : R.length ≤ 2097152) (hn : n < R.length) (hs : cpRows none (R.drop (n + 1)) = True) (hsh : T.noShR (R.take n ++ R.drop (n + 1)) = True) (aN : T.noShR N = True) (aR : T.noShR R = True) (aW : T.noShR W = True) (aS_ : T.noShR S = True) : SemX prog 77 [.one (.ptr 0 0), aI n] [.var [.sl true 10 N, .sl true 9 R, .sl true 2 W, .sl true 10 S]] [] [.var [.sl true 10 N, .sl true 9 (R.take n ++ R.drop (n + 1)), .sl true 2 W, .sl true 10 S]] := by
 refine goF [] [] [] func77 ?_
 have hA := And.intro hs (hsh)
 refine D ?_
 refine kRk [] [1000002] [] (s_slices_Delete_Mail R n (n + 1) (by omega) (by omega) hR hs hsh) ?_
 refine D ?_
 refine E ?_
 first
 | exact trivial
 | rw [List.take_of_length_le (by simp)]
theorem s_impl_DropMail_1 (N R W S : List (List T)) (n : Nat) (hR : R.length ≤ 2097152) (hn : n < R.length) (hs : cpRows none (R.drop (n + 1)) = True) (hsh : T.noShR (R.take n ++ R.drop (n + 1)) = True) (aN : T.noShR N = True) (aR : T.noShR R = True) (aW : T.noShR W = True) (aS_ : T.noShR S = True) (m : Mail) : SemX prog 82 [.one (.ptr 0 0), aS (eMail false m), aT (.ptr [.int .i64 n])] [.var [.sl true 10 N, .sl true 9 R, .sl true 2 W, .sl true 10 S]] [rI 0] [.var [.sl true 10 N, .sl true 9 (R.take n ++ R.drop (n + 1)), .sl true 2 W, .sl true 10 S]] := by
 refine goF [] [] [] func82 ?_
 have hA := And.intro hs (And.intro hsh (And.intro aN (And.intro aR (And.intro aW (aS_)))))
 refine D ?_
 refine kRk [1000000] [] [1000001, 1000002, 1000003, 1000004] (s_impl_Cluster_drop N R W S n hR hn hs hsh aN aR aW aS_) ?_
 refine D ?_
 refine E ?_
 first
 | exact trivial
 | rw [List.take_of_length_le (by simp)]
theorem s_impl_Node_follow (x : Node) (hx : limN 2097152 x) : SemX prog 48 [.one (.ptr 0 0)] [.var (eNode true x)] [] [.var (eNode true (followed x))] := by
 refine goF [] [] [] func48 ?_
 obtain ⟨hx1, hx2, hx3, hx4⟩ := id hx
 refine D ?_
 refine E ?_
 first
 | exact trivial
 | simp [followed]
theorem s_impl_upToDate (log : List Entry) (hl : log.length ≤ 2097152) (index term : Int) : SemX prog 49 [aT (.sl false 9 (log.map eEntry)), aI index, aI term] [] [rB (upM log index term)] [] := by
 refine goF [] [] [] func49 ?_
 refine D ?_
 refine kR (s_impl_last log (by omega)) ?_
 refine D ?_
 refine kRg (s_impl_size_Entry (log.map eEntry)) ?_
 refine D ?_
 refine E ?_
 first
 | exact trivial
 | simp only [go_sem, upM]
theorem s_cmp_isNaN_int64 (a : Int) : SemX prog 170 [aI a] [] [rB false] [] := by
 refine goF [] [] [] func170 ?_
 refine D ?_
 exact E trivial
theorem s_cmp_Less_int64 (a b : Int) : SemX prog 144 [aI a, aI b] [] [rB (decide (a < b))] [] := by
 refine goF [] [] [] func144 ?_
 refine D ?_
 refine kR (s_cmp_isNaN_int64 _) ?_
 refine D ?_
 refine kRg (s_cmp_isNaN_int64 _) ?_
 refine D ?_
 exact E trivial
theorem s_slices_isNaN_int64 (a : Int) : SemX prog 145 [aI a] [] [rB false] [] := by
 refine goF [] [] [] func145 ?_
 refine D ?_
 exact E trivial
theorem s_slices_BinarySearch_int64 (xs : List Int) (v : Int) (hr : rises xs) (hl : xs.length ≤ 2097152) : SemX prog 96 [aT (.sl false 1 (xs.map eI_i64)), aI v] [] [rI (lbn xs v), rB (hasI xs v)] [] := by
 refine goF [] [] [] func96 ?_
 refine D ?_
 refine L (α := Nat × Nat) (fun p => [(7, .int .i64 p.1), (8, .int .i64 p.2)]) (fun p => []) (fun p => p.2 - p.1) (fun p => p.1 ≤ p.2 ∧ p.2 ≤ xs.length ∧ (∀ q, q < p.1 → xs.getD q zI_i64 < v) ∧ (∀ q, p.2 ≤ q → q < xs.length → v ≤ xs.getD q zI_i64)) (0, xs.length) [] (fun x0 hL => ?_) (hi := by exact ⟨Nat.zero_le _, Nat.le_refl _, fun q h => by omega, fun q h1 h2 => by omega⟩)
 obtain ⟨i, j⟩ := x0
 obtain ⟨hij, hj, hlo, hup⟩ := hL
 try dsimp only at *
 refine D ?_
 refine cC (fun c0 => ?_) (fun c0 => ?_)
 · skip
   have hhf := half_nat i j (by omega)
   have hw1 : IntKind.u64.wrap ((i : Int) + j) = i + j := by have := wrap_u (i + j) (by omega); simpa using this
   have hw2 : IntKind.i64.wrap (((i + j) / 2 : Nat) : Int) = ((i + j) / 2 : Nat) := wrap_small (by omega) (by omega)
   have hA := And.intro hhf (And.intro hw1 (hw2))
   refine D ?_
   refine kR (s_cmp_Less_int64 _ _) ?_
   refine D ?_
   refine cC (fun c1 => ?_) (fun c1 => ?_)
   · skip
     refine D ?_
     refine N ((i + j) / 2 + 1, j) [] (hi := ?_) (hm := ?_)
     · dsimp only
       refine ⟨by omega, by omega, fun q hq => ?_, hup⟩
       by_cases e : q = (i + j) / 2
       · subst e; exact c1
       · have := rises_lt hr (i := q) (j := (i + j) / 2) (by omega) (by omega); omega
     · try dsimp only
       omega
   · skip
     refine D ?_
     refine N (i, (i + j) / 2) [] (hi := ?_) (hm := ?_)
     · dsimp only
       refine ⟨by omega, by omega, hlo, fun q h1 h2 => ?_⟩
       by_cases e : q = (i + j) / 2
       · subst e; omega
       · have := rises_lt hr (i := (i + j) / 2) (j := q) (by omega) (by omega); omega
     · try dsimp only
       omega
 · skip
   refine D ?_
   refine kRg (s_slices_isNaN_int64 _) ?_
   refine D ?_
   refine kRg (s_slices_isNaN_int64 _) ?_
   refine D ?_
   refine E ?_
   first
   | exact trivial
   | have hb : lbn xs v = i := lbn_eq (by omega) hlo (fun h => hup i (by omega) h)
     simp [hasI, hb]
theorem s_slices_Insert_int64 (R V : List (List T)) (i : Nat) (hi : i ≤ R.length) (hv : 1 ≤ V.length) (hl : R.length + V.length ≤ 2097152) (fR : ∀ r ∈ R, ∀ t ∈ r, t.flat = true) (fV : ∀ r ∈ V, ∀ t ∈ r, t.flat = true) : SemX prog 97 [.one (.t (.sl true 1 R)), aI i, .one (.t (.sl true 1 V))] [] [.one (.sl true 1 (R.take i ++ V ++ R.drop i))] [] := by
 refine goFC 0 [(82, ⟨none, none, some (2, true), none⟩), (110, ⟨some 10, none, none, none⟩), (156, ⟨some 10, none, none, none⟩)] [(11, 4, [167936], []), (11, 7, [0], []), (11, 8, [167936, 0], [167936]), (15, 4, [0], []), (15, 7, [0], []), (15, 8, [0], [0])] [] func97 (fun cp hcp hcp2 => ?_)
 have hcp3 : R.length ≤ cp := hcp
 have hcV : cpRows (some (0, 0)) V = True := eq_true fV
 have hcT : cpRows (some (0, 0)) (List.take i R) = True := eq_true fun r hr => fR r (List.mem_of_mem_take hr)
 have hcD : cpRows (some (0, 0)) (List.drop i R) = True := eq_true fun r hr => fR r (List.mem_of_mem_drop hr)
 have hX1 : List.take i (R ++ roomR 1 (cp - R.length)) = List.take i R := List.take_append_of_le_length hi
 have hX2 : List.take R.length (R ++ roomR 1 (cp - R.length)) = R := List.take_left' rfl
 have hX3 : List.take (R.length - i) (List.drop i (R ++ roomR 1 (cp - R.length))) = List.drop i R := by rw [List.drop_append_of_le_length hi]; exact List.take_left' (by simp)
 have hA := And.intro hcV (And.intro hcT (And.intro hcD (And.intro hX1 (And.intro hX2 (hX3)))))
 refine D ?_
 refine cC (fun c0 => ?_) (fun c0 => ?_)
 · skip
   omega
 · skip
   refine D ?_
   refine cC (fun c1 => ?_) (fun c1 => ?_)
   · skip
     refine D ?_
     refine E ?_
     obtain rfl : i = R.length := by omega
     simp [List.take_of_length_le]
   · skip
     refine D ?_
     refine cC (fun c2 => ?_) (fun c2 => ?_)
     · skip
       refine D ?_
       refine E ?_
       rw [if_pos (by omega)]
       exact ⟨congrArg (fun r => [TV.one (T.sl true 1 r)]) (ins_grow (by omega) (by omega) (by omega) (by omega) (by omega)), rfl, rfl⟩
     · skip
       refine D ?_
       refine kOv (⟨_, 42, 4, 2, 1, func146, by kernel_rfl, by kernel_rfl, by kernel_rfl, by kernel_rfl, by kernel_rfl, by kernel_rfl⟩ : OvlOk prog 146) ?_
       refine D ?_
       refine cT ?_
       refine D ?_
       refine E ?_
       rw [if_pos (by omega)]
       exact ⟨congrArg (fun r => [TV.one (T.sl true 1 r)]) (ins_room (by omega) (by simp [roomR_len]; omega) (by omega) (by omega) (by omega) (by omega) (by omega)), rfl, rfl⟩
theorem s_rise_I (xs : List Int) (v : Int) (hl : xs.length + 1 ≤ 2097152) (h : hasI xs v = false) : SemX prog 97 [.one (.t (.sl true 1 (xs.map eI_i64))), aI (lbn xs v), .one (.t (.sl true 1 [[.int .i64 v]]))] [] [.one (.sl true 1 ((riseL xs v).map eI_i64))] [] := by
  have := s_slices_Insert_int64 (xs.map eI_i64) [[.int .i64 v]] (lbn xs v) (by simpa using lbn_le xs v) (by simp) (by simpa using hl) (flat_I xs) (by simp [T.flat])
  rwa [← riseL_no h] at this
theorem s_math_bits_Mul64 (a b : Int) (ha : 0 ≤ a) (ha2 : a ≤ 1) (hb : 0 ≤ b) (hb2 : b ≤ 5) : SemX prog 186 [.one (.t (.int .u64 a)), .one (.t (.int .u64 b))] [] [.one (.int .u64 0), .one (.int .u64 (a * b))] [] := by
 refine goF [] [] [] func186 ?_
 refine D ?_
 refine E ?_
 first
 | exact trivial
 | have ea : a = 0 ∨ a = 1 := by omega
   have eb : b = 0 ∨ b = 1 ∨ b = 2 ∨ b = 3 ∨ b = 4 ∨ b = 5 := by omega
   rcases ea with rfl | rfl <;> rcases eb with rfl | rfl | rfl | rfl | rfl | rfl <;> exact rfl
theorem s_math_bits_Mul (a b : Int) (ha : 0 ≤ a) (ha2 : a ≤ 1) (hb : 0 ≤ b) (hb2 : b ≤ 5) : SemX prog 172 [.one (.t (.int .u64 a)), .one (.t (.int .u64 b))] [] [.one (.int .u64 0), .one (.int .u64 (a * b))] [] := by
 refine goF [] [] [] func172 ?_
 refine D ?_
 refine cF ?_
 refine D ?_
 refine kR (s_math_bits_Mul64 a b ha ha2 hb hb2) ?_
 refine D ?_
 exact E trivial
theorem s_slices_Repeat_int64 (v : Int) (n : Nat) (h1 : 1 ≤ n) (h5 : n ≤ 5) : SemX prog 148 [aT (.sl false 1 [[.int .i64 v]]), aI n] [] [.one (.sl true 1 ((List.replicate n v).map eI_i64))] [] := by
 refine goF [] [(9, 3, [126976], []), (9, 6, [126976], []), (9, 7, [126976], [126976])] [] func148 ?_
 have hw : IntKind.u64.wrap (n : Int) = n := by
  have : n = 1 ∨ n = 2 ∨ n = 3 ∨ n = 4 ∨ n = 5 := by omega
  rcases this with rfl | rfl | rfl | rfl | rfl <;> rfl
 have hm1 : min n 1 = 1 := by omega
 have hw2 : IntKind.i64.wrap (n : Int) = n := by
  have : n = 1 ∨ n = 2 ∨ n = 3 ∨ n = 4 ∨ n = 5 := by omega
  rcases this with rfl | rfl | rfl | rfl | rfl <;> rfl
 have hA := And.intro hw (And.intro hw2 (hm1))
 refine D ?_
 refine cC (fun c0 => ?_) (fun c0 => ?_)
 · skip
   omega
 · skip
   refine D ?_
   refine kR (s_math_bits_Mul 1 n (by omega) (by omega) (by omega) (by omega)) ?_
   refine D ?_
   refine cC (fun c1 => ?_) (fun c1 => ?_)
   · skip
     omega
   · skip
     refine D ?_
     refine L (α := Nat) (fun k => [(8, .int .i64 k)]) (fun k => [(126976, .arr ⟨1, repV v k n, repVer k, none⟩)]) (fun k => n - k) (fun k => 1 ≤ k ∧ k ≤ n ∧ (k = 1 ∨ k = 2 ∨ k = 4 ∨ k = n)) 1 [] (fun k hL => ?_) (by simp only [go_sem, hA] <;> and_intros <;> first | with_reducible exact rfl | (first | omega | exact arr_eq (repV_0 h1) rfl)) (by omega)
     obtain ⟨hk1, hk2, hk3⟩ := hL
     refine D ?_
     refine cC (fun c2 => ?_) (fun c2 => ?_)
     · skip
       have hlk : (repV v k n).length = n := repV_len hk2
       have hmk : min (n - k) (min k n) = min (n - k) k := by omega
       have hmk2 : min (n - k) k + (n - k - min (n - k) k) = n - k := by omega
       have hA := And.intro hA (And.intro hlk (And.intro hmk (hmk2)))
       refine D ?_
       refine lp_next (k + min (n - k) k) [] ?_ ?_ ?_
       · simp only [go_sem, hA] <;> and_intros <;> first | with_reducible exact rfl | (first | omega | (refine arr_eq (by rw [← repV_step hk2, List.take_take]) ?_; unfold repVer; (repeat' split) <;> omega))
       · omega
       · omega
     · skip
       obtain rfl : k = n := by omega
       have hlk := repV_len (v := v) (Nat.le_refl k)
       have hal : List.take k (repV v k k) = (List.replicate k v).map eI_i64 := by rw [List.take_of_length_le (by omega), repV_all]
       have hA := And.intro hA (And.intro hlk (hal))
       refine D ?_
       exact E trivial
section
attribute [local go_sem] rep_I set_map_I led
theorem s_impl_Node_lead (x : Node) (hx : limN 2097152 x) (h0 : 0 ≤ x.commit) (h1 : x.commit ≤ x.log.length) (p1 : 1 ≤ x.peers) (p2 : x.peers ≤ 5) (p3 : 0 ≤ x.id) (p4 : x.id < x.peers) : SemX prog 99 [.one (.ptr 0 0)] [.var (eNode true x)] [] [.var (eNode true (leadOf x))] := by
 refine goF [(32, ⟨some 1, none, none, none⟩)] [(1, 5, [1000000], []), (1, 6, [1000005], []), (1, 8, [], [69632]), (1, 12, [1000000], []), (1, 13, [69632], [90112]), (1, 17, [1000000], []), (1, 18, [], [110592]), (1, 21, [1000000], [1000000]), (1, 24, [1000000], [1000000]), (2, 3, [1000000], []), (2, 7, [1000000], []), (2, 11, [1000000], []), (2, 12, [1000005], []), (2, 13, [110592], []), (2, 14, [110592], [110592])] [] func99 ?_
 obtain ⟨hx1, hx2, hx3, hx4⟩ := id hx
 have hll : limN 2097152 (led x) := ⟨hx.1, by simp [led], by simp [led]; omega, by simp [led]; omega⟩
 refine D ?_
 refine kD (s_impl_size_Entry (x.log.map eEntry)) ?_
 refine D ?_
 refine kD (s_slices_Repeat_int64 (x.log.length + 1) x.peers.toNat (by omega) (by omega)) ?_
 refine D ?_
 refine kD (s_impl_size_Entry (x.log.map eEntry)) ?_
 refine D ?_
 refine kR (s_impl_Node_isQuorum (led x) 1 (by omega) (by omega)) ?_
 refine D ?_
 refine cC (fun c0 => ?_) (fun c0 => ?_)
 · skip
   refine D ?_
   refine kRk [1000000] [] [1000005, 90112, 110592] (s_impl_Node_agree (led x) hll h0 h1) ?_
   refine D ?_
   refine E ?_
   simp [leadOf, led]
 · skip
   refine D ?_
   refine E ?_
   have hq : quor x 1 = false := c0
   simp [agreed_led hq h0 h1, led]
end
section
attribute [local go_sem] riseN
theorem s_impl_Node_granted (x : Node) (hx : limN 2097152 x) (h0 : 0 ≤ x.commit) (h1 : x.commit ≤ x.log.length) (p1 : 1 ≤ x.peers) (p2 : x.peers ≤ 5) (p3 : 0 ≤ x.id) (p4 : x.id < x.peers) (nv : rises x.votes) (nl : x.votes.length ≤ 100) (m : Mail) (hme : m.entries.length ≤ 2097152) : SemX prog 50 [.one (.ptr 0 0), aS (eMail false m)] [.var (eNode true x)] [] [.var (eNode true (grantedN x m))] := by
 refine goF [] [(1, 1, [16384], []), (1, 5, [16384], []), (1, 9, [1000000], []), (1, 16, [1000000], []), (2, 3, [1000000], []), (2, 5, [16384], []), (2, 6, [1000008], []), (4, 4, [1000000], []), (4, 7, [16384], []), (4, 8, [], [188416]), (4, 9, [1000008, 188416], [1000008, 188416, 192512]), (4, 12, [1000000], [1000000])] [] func50 ?_
 obtain ⟨hx1, hx2, hx3, hx4⟩ := id hx
 have hl4 := riseL_len x.votes m.from_
 have hlr : limN 2097152 (riseN x m) := ⟨hx.1, by simp [riseN]; omega, hx.2.2.1, hx.2.2.2⟩
 refine D ?_
 refine cC (fun c0 => ?_) (fun c0 => ?_)
 · skip
   refine D ?_
   refine E ?_
   have hg : (m.ok && decide (m.term = x.term) && decide (x.role = 1)) = false := by rcases c0 with (h | h) | h <;> simp [h]
   simp [grantedN, hg]
 · skip
   refine D ?_
   refine kD (s_slices_BinarySearch_int64 x.votes m.from_ nv hx.2.1) ?_
   refine D ?_
   refine cC (fun c1 => ?_) (fun c1 => ?_)
   · skip
     refine D ?_
     refine kDk [] [1000008, 188416] [] (s_rise_I x.votes m.from_ (by omega) c1) ?_
     refine D ?_
     refine kR (s_impl_Node_isQuorum (riseN x m) (riseL x.votes m.from_).length (by omega) (by omega)) ?_
     refine D ?_
     refine cC (fun c2 => ?_) (fun c2 => ?_)
     · skip
       refine D ?_
       refine kRk [1000000] [] [1000005, 192512, 1000009, 1000010] (s_impl_Node_lead (riseN x m) hlr h0 h1 p1 p2 p3 p4) ?_
       refine D ?_
       refine E ?_
       have hg : (m.ok && decide (m.term = x.term) && decide (x.role = 1)) = true := by revert c0; cases m.ok <;> simp
       have he : grantedN x m = leadOf (riseN x m) := by unfold grantedN; rw [if_pos hg]; exact if_pos c2
       first | (rw [he]; done) | (rw [he]; exact rfl)
     · skip
       refine D ?_
       refine E ?_
       have hg : (m.ok && decide (m.term = x.term) && decide (x.role = 1)) = true := by revert c0; cases m.ok <;> simp
       have he : grantedN x m = riseN x m := by unfold grantedN; rw [if_pos hg]; exact if_neg (by intro h; exact absurd (h.symm.trans c2) (by simp))
       first | (rw [he]; done) | (rw [he]; exact rfl)
   · skip
     have hrv := riseL_has c1
     have hA := hrv
     refine D ?_
     refine kR (s_impl_Node_isQuorum (riseN x m) (riseL x.votes m.from_).length (by omega) (by omega)) ?_
     refine D ?_
     refine cC (fun c2 => ?_) (fun c2 => ?_)
     · skip
       refine D ?_
       refine kRk [1000000] [] [1000005, 1000008, 1000009, 1000010] (s_impl_Node_lead (riseN x m) hlr h0 h1 p1 p2 p3 p4) ?_
       refine D ?_
       refine E ?_
       have hg : (m.ok && decide (m.term = x.term) && decide (x.role = 1)) = true := by revert c0; cases m.ok <;> simp
       have hrx : riseN x m = x := by unfold riseN; rw [hrv]
       have he : grantedN x m = leadOf x := by unfold grantedN; rw [if_pos hg, hrx]; exact if_pos c2
       first | (rw [he]; done) | (rw [he]; exact rfl)
     · skip
       refine D ?_
       refine E ?_
       have hg : (m.ok && decide (m.term = x.term) && decide (x.role = 1)) = true := by revert c0; cases m.ok <;> simp
       have hrx : riseN x m = x := by unfold riseN; rw [hrv]
       have he : grantedN x m = x := by unfold grantedN; rw [if_pos hg, hrx]; exact if_neg (by intro h; exact absurd (h.symm.trans c2) (by simp))
       rw [he]
end
theorem s_impl_CommonOf (a b : List Entry) (ha : a.length ≤ 2097152) (hb : b.length ≤ 2097152) : SemX prog 17 [aT (.sl false 9 (a.map eEntry)), aT (.sl false 9 (b.map eEntry))] [] [rI (commonN a b)] [] := by
 refine goF [] [] [] func17 ?_
 refine D ?_
 refine L (α := Nat) (fun i => [(5, .int .i64 i)]) (fun i => []) (fun i => min a.length b.length - i) (fun i => i ≤ min a.length b.length ∧ ∀ q, q < i → eqEn (a.getD q zEntry) (b.getD q zEntry) = true) 0 [] (fun i hL => ?_) (hi := by exact ⟨Nat.zero_le _, fun q h => by omega⟩)
 obtain ⟨hi, hlo⟩ := hL
 refine D ?_
 refine cC (fun c0 => ?_) (fun c0 => ?_)
 · skip
   refine D ?_
   refine N (i+1) [] (hi := ?_) (hm := ?_)
   · obtain ⟨d1, d2⟩ := c0
     have d3 : eqEn (a.getD i zEntry) (b.getD i zEntry) = true := by simp only [eqEn, Bool.and_eq_true, decide_eq_true_eq]; exact d2
     have d4 : i < a.length ∧ i < b.length := by first | omega | (split at d1 <;> omega)
     refine ⟨by omega, fun q hq => ?_⟩
     by_cases e : q = i
     · subst e; exact d3
     · exact hlo q (by omega)
   · obtain ⟨d1, d2⟩ := c0
     have d3 : eqEn (a.getD i zEntry) (b.getD i zEntry) = true := by simp only [eqEn, Bool.and_eq_true, decide_eq_true_eq]; exact d2
     have d4 : i < a.length ∧ i < b.length := by first | omega | (split at d1 <;> omega)
     omega
 · skip
   refine D ?_
   refine E ?_
   first
   | exact trivial
   | have c9 : (decide ((i : Int) < if (b.length : Int) < a.length then (b.length : Int) else a.length) && eqEn (a.getD i zEntry) (b.getD i zEntry)) = false := c0
     have hcn : commonN a b = i := tw_range hi hlo (fun h => by
      cases he : eqEn (a.getD i zEntry) (b.getD i zEntry)
      · rfl
      · rw [he] at c9; simp at c9; first | omega | (split at c9 <;> omega))
     rw [hcn]
theorem s_impl_fits (log : List Entry) (hl : log.length ≤ 2097152) (index term : Int) : SemX prog 100 [aT (.sl false 9 (log.map eEntry)), aI index, aI term] [] [rB (fitsM log index term)] [] := by
 refine goF [] [] [] func100 ?_
 refine D ?_
 refine cC (fun c0 => ?_) (fun c0 => ?_)
 · skip
   refine D ?_
   refine E ?_
   simp [fitsM, c0]
 · skip
   refine D ?_
   refine kR (s_impl_size_Entry (log.map eEntry)) ?_
   refine D ?_
   refine kR (s_impl_in _ _ _) ?_
   refine D ?_
   refine E ?_
   refine ⟨inR_idx hl, ?_⟩
   simp [fitsM, c0]
theorem s_impl_take (log more : List Entry) (i : Nat) (hi : i ≤ log.length) (hl : log.length ≤ 2097152) (hm : more.length ≤ 2097152) : SemX prog 149 [aT (.sl false 9 (log.map eEntry)), aI i, aT (.sl false 9 (more.map eEntry))] [] [.agg (eEntriesResult true (takeR log more i))] [] := by
 refine goF [(46, ⟨some 1, none, none, none⟩)] [(6, 2, [53248], []), (6, 7, [53248], []), (6, 9, [53248], []), (6, 11, [40960], []), (7, 2, [53248], []), (7, 6, [53248], [180224, 53248])] [] func149 ?_
 refine D ?_
 refine kR (s_slices_Clone_Entry log hl) ?_
 refine D ?_
 refine L (α := Nat) (fun k => [(15, .int .i64 k)]) (fun k => []) (fun k => more.length - k) (fun k => k ≤ more.length ∧ i + k ≤ log.length ∧ ∀ q, q < k → bad7 log more i q = false) 0 [] (fun k hL => ?_) (hi := by exact ⟨Nat.zero_le _, hi, fun q h => by omega⟩)
 obtain ⟨hk, hik, hlo⟩ := hL
 have hmi : min (i + k) log.length = i + k := by omega
 have hA := hmi
 refine D ?_
 refine cC (fun c0 => ?_) (fun c0 => ?_)
 · skip
   refine D ?_
   refine kD (s_impl_size_Entry (log.map eEntry)) ?_
   refine D ?_
   refine cC (fun c1 => ?_) (fun c1 => ?_)
   · skip
     refine D ?_
     refine N (k+1) [] (hi := ?_) (hm := ?_)
     · have hb : bad7 log more i k = false := by
        simp [bad7, -List.getD_eq_getElem?_getD]
        exact ⟨by omega, c1.2⟩
       refine ⟨by omega, by omega, fun q hq => ?_⟩
       by_cases e : q = k
       · subst e; exact hb
       · exact hlo q (by omega)
     · omega
   · skip
     refine D ?_
     refine cC (fun c2 => ?_) (fun c2 => ?_)
     · skip
       refine D ?_
       refine E ?_
       have hb : bad7 log more i k = true := by
        simp [-List.getD_eq_getElem?_getD] at c1
        simp [bad7, -List.getD_eq_getElem?_getD]
        by_cases h : log.length ≤ i + k
        · exact .inl h
        · exact .inr (c1 (by omega))
       have ht := take7_at (by omega) hlo hb
       have hl4 : (take7 log more i).length = i + k + (more.length - k) := by rw [ht]; simp; omega
       have he : takeR log more i = ⟨2, []⟩ := by unfold takeR; rw [if_pos (by rw [hl4]; omega)]
       simp [he]
     · skip
       refine D ?_
       refine E ?_
       have hb : bad7 log more i k = true := by
        simp [-List.getD_eq_getElem?_getD] at c1
        simp [bad7, -List.getD_eq_getElem?_getD]
        by_cases h : log.length ≤ i + k
        · exact .inl h
        · exact .inr (c1 (by omega))
       have ht := take7_at (by omega) hlo hb
       have hl4 : (take7 log more i).length = i + k + (more.length - k) := by rw [ht]; simp; omega
       have he : takeR log more i = ⟨0, List.take (i + k) log ++ List.drop k more⟩ := by unfold takeR; rw [if_neg (by rw [hl4]; omega), ht]
       simp [he]
       exact List.take_of_length_le (by simp; omega)
 · skip
   refine D ?_
   refine cC (fun c2 => ?_) (fun c2 => ?_)
   · skip
     refine D ?_
     refine E ?_
     have ht := take7_all (log := log) (more := more) (i := i) (fun q hq => hlo q (by omega))
     have he : takeR log more i = ⟨2, []⟩ := by unfold takeR; rw [if_pos (by rw [ht]; omega)]
     simp [he]
   · skip
     refine D ?_
     refine E ?_
     have ht := take7_all (log := log) (more := more) (i := i) (fun q hq => hlo q (by omega))
     have he : takeR log more i = ⟨0, log⟩ := by unfold takeR; rw [if_neg (by rw [ht]; omega), ht]
     simp [he]
theorem s_impl_TakeEntries (log more : List Entry) (index term : Int) (hl : log.length ≤ 2097152) (hm : more.length ≤ 2097152) (h1 : logFault log = 0) (h2 : logFault more = 0) (h3 : fitsM log index term = true) (h4 : 0 < more.length → term ≤ (more.getD 0 zEntry).term) : SemX prog 101 [aT (.sl false 9 (log.map eEntry)), aI index, aI term, aT (.sl false 9 (more.map eEntry))] [] [.agg (eEntriesResult true (takeR log more index.toNat))] [] := by
 refine goF [] [] [] func101 ?_
 obtain ⟨n, rfl, hn⟩ := fits_nat hl h3
 have hA := And.intro h1 (And.intro h2 (h3))
 refine D ?_
 refine kR (s_impl_LogFault log (by omega)) ?_
 refine D ?_
 refine cT ?_
 refine D ?_
 refine kR (s_impl_LogFault more (by omega)) ?_
 refine D ?_
 refine cF ?_
 refine D ?_
 refine kR (s_impl_fits log hl n term) ?_
 refine D ?_
 refine cF ?_
 refine D ?_
 refine cC (fun c3 => ?_) (fun c3 => ?_)
 · skip
   have := h4 (by omega)
   omega
 · skip
   refine D ?_
   refine kR (s_impl_take log more n hn hl hm) ?_
   refine D ?_
   exact E trivial
section
attribute [local go_sem] followed baseM
theorem s_impl_Node_append (x : Node) (hx : limN 2097152 x) (h0 : 0 ≤ x.commit) (h1 : x.commit ≤ x.log.length) (m : Mail) (hme : m.entries.length ≤ 2097152) (lf : logFault x.log = 0) (mf : logFault m.entries = 0) (mt : 0 < m.entries.length → m.last ≤ (m.entries.getD 0 zEntry).term) (hi0 : 0 ≤ m.index) (hi9 : m.index ≤ 40) : SemX prog 51 [.one (.ptr 0 0), aS (eMail false m), .one (.ptr 1 0)] [.var (eNode true x), .var (eMail true (baseM x m))] [rI (takenC x m)] [.var (eNode true (takenN x m)), .var (eMail true (takenM x m))] := by
 refine goF [(76, ⟨some 1, none, none, none⟩), (178, ⟨some 1, none, none, none⟩)] [(1, 1, [20480], []), (1, 5, [1000000], []), (6, 3, [1000000], []), (6, 5, [20480], []), (6, 7, [20480], []), (6, 8, [99332], []), (7, 2, [20480], []), (7, 7, [1000000], []), (7, 8, [99332], []), (7, 12, [1001000], [1001000]), (9, 3, [1000000], []), (9, 5, [20480], []), (9, 7, [20480], []), (9, 9, [20480], []), (9, 10, [99332], [233473]), (9, 11, [], [32768]), (9, 12, [32768], [32768]), (12, 3, [1000000], []), (12, 5, [32768], []), (12, 6, [99332, 233473], []), (12, 10, [1000000], []), (15, 3, [20480], []), (15, 5, [20480], []), (15, 10, [1001000], [1001000]), (15, 13, [1001000], [1001000]), (16, 4, [1000000], []), (16, 6, [20480], []), (16, 10, [1001000], []), (16, 15, [1000000], [1000000])] [] func51 ?_
 obtain ⟨hx1, hx2, hx3, hx4⟩ := id hx
 refine D ?_
 refine cC (fun c0 => ?_) (fun c0 => ?_)
 · skip
   refine D ?_
   refine E ?_
   obtain ⟨e1, e2, e3⟩ := taken0 c0
   simp [e1, e2, e3, baseM, followed]
 · skip
   refine D ?_
   refine cC (fun c1 => ?_) (fun c1 => ?_)
   · skip
     refine D ?_
     refine E ?_
     obtain ⟨e1, e2, e3⟩ := taken1 c0 c1
     simp [e1, e2, e3, baseM, followed]
   · skip
     refine D ?_
     refine kRk [1000000] [] [1000005, 1000008, 1000009, 1000010] (s_impl_Node_follow x hx) ?_
     refine D ?_
     refine kD (s_impl_fits x.log hx.1 m.index m.last) ?_
     refine D ?_
     refine cC (fun c2 => ?_) (fun c2 => ?_)
     · skip
       refine D ?_
       refine kD (s_impl_size_Entry (x.log.map eEntry)) ?_
       refine D ?_
       refine E ?_
       obtain ⟨e1, e2, e3⟩ := taken2 c0 c1 c2
       simp [e1, e2, e3, baseM, followed]
       exact min_fi _ _
     · skip
       have hfit : fitsM x.log m.index m.last = true := by simpa using c2
       obtain ⟨i, hi, hn⟩ := fits_nat hx.1 hfit
       have hi2 : m.index.toNat = i := by omega
       have htl : takenL x m = take7 x.log m.entries i := by unfold takenL; rw [hi2]
       have hll := take7_len (more := m.entries) hn
       have hml := log_le mf
       have hA := hi
       refine D ?_
       refine kD (s_impl_TakeEntries x.log m.entries i m.last hx.1 hme lf mf (hi ▸ hfit) mt) ?_
       refine D ?_
       refine cC (fun c3 => ?_) (fun c3 => ?_)
       · skip
         obtain ⟨h40, htr⟩ := takeR_bad c3
         have hA := And.intro hA (htr)
         refine D ?_
         refine E ?_
         obtain ⟨e1, e2, e3⟩ := taken3 c0 c1 hfit (by rw [htl]; omega)
         simp [e1, e2, e3, baseM, followed]
       · skip
         obtain ⟨h40, htr⟩ := takeR_ok c3
         have hA := And.intro hA (htr)
         refine D ?_
         refine kD (s_impl_CommonOf x.log (take7 x.log m.entries i) hx.1 (by omega)) ?_
         refine D ?_
         refine cC (fun c4 => ?_) (fun c4 => ?_)
         · skip
           refine D ?_
           refine E ?_
           obtain ⟨e1, e2, e3⟩ := taken4 c0 c1 hfit (by rw [htl]; omega) (by rw [htl]; exact c4)
           simp [e1, e2, e3, baseM, followed]
         · skip
           refine D ?_
           refine kD (s_impl_size_Entry (m.entries.map eEntry)) ?_
           refine D ?_
           refine E ?_
           obtain ⟨e1, e2, e3⟩ := taken5 c0 c1 hfit (by rw [htl]; omega) (by rw [htl]; exact c4)
           simp [e1, e2, e3, baseM, takenOk, followed, takenEnd, htl, hi, min_fi, max_fi]
end
section
attribute [local go_sem] toldOk set_map_I
theorem s_impl_Node_matched (x : Node) (hx : limN 2097152 x) (h0 : 0 ≤ x.commit) (h1 : x.commit ≤ x.log.length) (m : Mail) (hme : m.entries.length ≤ 2097152) (i : Nat) (hf : m.from_ = i) (hi0 : 0 ≤ m.index) (hi9 : m.index ≤ 40) (hL : x.role = 2 → i < x.next.length ∧ i < x.match_.length ∧ 1 ≤ x.next.getD i zI_i64 ∧ x.next.getD i zI_i64 ≤ 41 ∧ 0 ≤ x.match_.getD i zI_i64 ∧ x.match_.getD i zI_i64 ≤ 40) : SemX prog 52 [.one (.ptr 0 0), aS (eMail false m)] [.var (eNode true x)] [] [.var (eNode true (toldN x m))] := by
 refine goF [(84, ⟨some 1, none, none, none⟩), (90, ⟨some 1, none, none, none⟩), (100, ⟨some 1, none, none, none⟩), (154, ⟨some 1, none, none, none⟩)] [(1, 1, [16384], []), (1, 5, [1000000], []), (1, 11, [1000000], []), (2, 3, [1000000], []), (2, 5, [16384], []), (2, 6, [1000010], []), (2, 10, [1000000], []), (2, 12, [16384], []), (2, 13, [1000009], []), (4, 3, [1000009], []), (4, 6, [16384], []), (4, 11, [1000010], []), (4, 15, [1000009], [1000009]), (5, 1, [16384], []), (5, 4, [1000010], []), (5, 8, [16384], []), (5, 12, [1000000], []), (5, 13, [1000005], [])] [] func52 ?_
 obtain ⟨hx1, hx2, hx3, hx4⟩ := id hx
 have hlk : limN 2097152 (toldOk x m) := ⟨hx.1, hx.2.1, by simp [toldOk]; omega, by simp [toldOk]; omega⟩
 have hA := hf
 refine D ?_
 refine cC (fun c0 => ?_) (fun c0 => ?_)
 · skip
   refine D ?_
   refine E ?_
   have he : toldN x m = x := by unfold toldN; exact if_pos c0
   rw [he]
 · skip
   obtain ⟨k1, k2, k3, k4, k5, k6⟩ := hL (by simp at c0; omega)
   refine D ?_
   refine cC (fun c1 => ?_) (fun c1 => ?_)
   · skip
     refine D ?_
     refine E ?_
     have hto : toldN x m = toldNo x m := by unfold toldN; rw [if_neg (by simp at c0; omega), if_neg (by simp [c1])]
     have he : toldNo x m = { x with next := x.next.set i (max (max 1 (min (x.next.getD i zI_i64 - 1) (m.index + 1))) (x.match_.getD i zI_i64 + 1)) } := by unfold toldNo; rw [hf]; rfl
     rw [hto, he, ← told_impl]
     exact rfl
   · skip
     refine D ?_
     refine kDg (s_impl_size_Entry _) ?_
     refine D ?_
     refine cC (fun c2 => ?_) (fun c2 => ?_)
     · skip
       have ht : toldT x m = m.index := by unfold toldT; rw [hf]; exact if_pos c2
       have hgs : (x.match_.set i m.index).getD i zI_i64 = m.index := by simp [k2]
       have hA := And.intro hA (And.intro ht (hgs))
       refine D ?_
       refine kRk [1000000] [] [1000005, 1000008, 1000009, 1000010] (s_impl_Node_agree (toldOk x m) hlk h0 h1) ?_
       refine D ?_
       refine E ?_
       have hto : toldN x m = agreed (toldOk x m) := by unfold toldN; rw [if_neg (by simp at c0; omega), if_pos (by simpa using c1)]
       simp [hto, toldOk, ht, hf]
     · skip
       have ht : toldT x m = x.match_.getD i zI_i64 := by unfold toldT; rw [hf]; exact if_neg (by intro h; simp [-List.getD_eq_getElem?_getD] at c2; have := c2 h.1; have := h.2; omega)
       have hms : x.match_.set i (x.match_.getD i zI_i64) = x.match_ := by simp [k2]
       have hA := And.intro hA (And.intro ht (hms))
       refine D ?_
       refine kRk [1000000] [] [1000005, 1000008, 1000009, 1000010] (s_impl_Node_agree (toldOk x m) hlk h0 h1) ?_
       refine D ?_
       refine E ?_
       have hto : toldN x m = agreed (toldOk x m) := by unfold toldN; rw [if_neg (by simp at c0; omega), if_pos (by simpa using c1)]
       simp [-List.getD_eq_getElem?_getD, hto, toldOk, ht, hf, hms]
end
section
attribute [local go_sem] followed baseM
theorem s_impl_HearMail (x : Node) (hx : limN 2097152 x) (m : Mail) (hme : m.entries.length ≤ 2097152) : SemX prog 19 [aS (eNode false x), aS (eMail false m)] [] [.agg (eNodeResult true (hearMail x m))] [] := by
 refine goF [] [] [] func19 ?_
 obtain ⟨hx1, hx2, hx3, hx4⟩ := id hx
 refine D ?_
 refine kR (s_impl_MailFault x m hx hme) ?_
 refine D ?_
 refine cC (fun c0 => ?_) (fun c0 => ?_)
 · skip
   refine D ?_
   refine E ?_
   have he : hearMail x m = badN (if nodeFault x ≠ 0 then nodeFault x else mailFault x m) := by unfold hearMail; by_cases h : nodeFault x = 0 <;> simp_all
   simp [he, badN, zNode]
 · skip
   have hnm : nodeFault x = 0 ∧ mailFault x m = 0 := by by_cases h : nodeFault x = 0 <;> simp_all
   obtain ⟨hn, hm⟩ := hnm
   have K := hear_ok hx hn hm
   obtain ⟨⟨p1, p2, _⟩, _⟩ := node_ok hn
   obtain ⟨mk, mfr, mtm, mix, mco, mlf, mlt⟩ := mail_ok ⟨p1, p2⟩ hm
   have hrl := riseL_len (newer x m).votes m.from_
   have hnv := K.nv
   have hlr : limN 2097152 (riseN (newer x m) m) := ⟨K.lim.1, by simp [riseN]; omega, K.lim.2.2.1, K.lim.2.2.2⟩
   refine D ?_
   refine kR (s_impl_Node_copied x hx) ?_
   refine D ?_
   refine cC (fun c1 => ?_) (fun c1 => ?_)
   · skip
     have hnw : newer x m = followed { x with term := m.term, voted := -1 } := by unfold newer; rw [if_pos (by omega)]
     have hA := hnw
     refine D ?_
     refine kRk [28672] [] [73732, 73735, 73736, 73737] (s_impl_Node_follow { x with term := m.term, voted := -1 } hx) ?_
     refine D ?_
     refine cC (fun c2 => ?_) (fun c2 => ?_)
     · skip
       refine D ?_
       refine kRg (s_impl_upToDate (newer x m).log K.lim.1 m.index m.last) ?_
       refine D ?_
       refine cC (fun c3 => ?_) (fun c3 => ?_)
       · skip
         refine D ?_
         refine cC (fun c6 => ?_) (fun c6 => ?_)
         · skip
           refine D ?_
           refine E ?_
           cases c6
         · skip
           refine D ?_
           refine E ?_
           have he : hearMail x m = hear x m := by unfold hearMail; rw [if_neg (by simp [hn]), if_neg (by simp [hm])]
           have hu : upOk (newer x m) m = true := by unfold upOk; rw [hnw]; simp [followed, c3]
           have he2 : hear x m = ⟨0, votedN (newer x m) m, [grantM (newer x m) m]⟩ := by unfold hear; exact if_pos c2
           rw [he, he2]
           simp only [votedN, grantM, hu, if_true]
           simp [hnw, followed, eMail, c3]
       · skip
         refine D ?_
         refine cC (fun c6 => ?_) (fun c6 => ?_)
         · skip
           refine D ?_
           refine E ?_
           cases c6
         · skip
           refine D ?_
           refine E ?_
           have he : hearMail x m = hear x m := by unfold hearMail; rw [if_neg (by simp [hn]), if_neg (by simp [hm])]
           have hu : upOk (newer x m) m = false := by unfold upOk; rw [hnw]; first | exact c3 | simp [followed, c3]
           have he2 : hear x m = ⟨0, votedN (newer x m) m, [grantM (newer x m) m]⟩ := by unfold hear; exact if_pos c2
           rw [he, he2]
           simp only [votedN, grantM, hu, Bool.false_eq_true, if_false]
           first | (simp [hnw, followed, eMail, c3]; done) | (simp only [hnw, eMail, c3]; simp)
     · skip
       refine D ?_
       refine cC (fun c4 => ?_) (fun c4 => ?_)
       · skip
         refine D ?_
         refine kRk [28672] [] [115716, 115719, 115720, 115721] (s_impl_Node_granted (newer x m) K.lim K.c0 K.c1 K.p1 K.p2 K.p3 K.p4 K.rv K.nv m hme) ?_
         refine D ?_
         refine cC (fun c6 => ?_) (fun c6 => ?_)
         · skip
           refine D ?_
           refine E ?_
           cases c6
         · skip
           refine D ?_
           refine E ?_
           have he : hearMail x m = hear x m := by unfold hearMail; rw [if_neg (by simp [hn]), if_neg (by simp [hm])]
           have he2 : hear x m = ⟨0, grantedN (newer x m) m, []⟩ := by unfold hear; rw [if_neg c2, if_pos c4]
           simp [he, he2, hnw, followed]
       · skip
         refine D ?_
         refine cC (fun c5 => ?_) (fun c5 => ?_)
         · skip
           refine D ?_
           refine kRk [28672, 36864] [] [115716, 115719, 115720, 115721] (s_impl_Node_append (newer x m) K.lim K.c0 K.c1 m hme K.lf mlf mlt mix.1 mix.2) ?_
           refine D ?_
           refine cC (fun c6 => ?_) (fun c6 => ?_)
           · skip
             refine D ?_
             refine E ?_
             have he : hearMail x m = hear x m := by unfold hearMail; rw [if_neg (by simp [hn]), if_neg (by simp [hm])]
             have he2 : hear x m = badN (takenC (newer x m) m) := by unfold hear; rw [if_neg c2, if_neg c4, if_pos c5, if_pos (by rw [hnw]; exact c6)]
             simp [he, he2, hnw, followed, badN, zNode]
           · skip
             refine D ?_
             refine E ?_
             have he : hearMail x m = hear x m := by unfold hearMail; rw [if_neg (by simp [hn]), if_neg (by simp [hm])]
             have he2 : hear x m = ⟨0, takenN (newer x m) m, [takenM (newer x m) m]⟩ := by unfold hear; rw [if_neg c2, if_neg c4, if_pos c5, if_neg (by rw [hnw]; exact fun h => h c6)]
             simp [he, he2, hnw, followed, eMail, c6]
         · skip
           refine D ?_
           refine kRk [28672] [] [115716, 115719, 115720, 115721] (s_impl_Node_matched (newer x m) K.lim K.c0 K.c1 m hme m.from_.toNat (by omega) mix.1 mix.2 K.tl) ?_
           refine D ?_
           refine cC (fun c6 => ?_) (fun c6 => ?_)
           · skip
             refine D ?_
             refine E ?_
             cases c6
           · skip
             refine D ?_
             refine E ?_
             have he : hearMail x m = hear x m := by unfold hearMail; rw [if_neg (by simp [hn]), if_neg (by simp [hm])]
             have he2 : hear x m = ⟨0, toldN (newer x m) m, []⟩ := by unfold hear; rw [if_neg c2, if_neg c4, if_neg c5]
             simp [he, he2, hnw, followed]
   · skip
     have hnw : newer x m = x := by unfold newer; rw [if_neg (by omega)]
     have hA := hnw
     refine D ?_
     refine cC (fun c2 => ?_) (fun c2 => ?_)
     · skip
       refine D ?_
       refine kRg (s_impl_upToDate (newer x m).log K.lim.1 m.index m.last) ?_
       refine D ?_
       refine cC (fun c3 => ?_) (fun c3 => ?_)
       · skip
         refine D ?_
         refine cC (fun c6 => ?_) (fun c6 => ?_)
         · skip
           refine D ?_
           refine E ?_
           cases c6
         · skip
           refine D ?_
           refine E ?_
           have he : hearMail x m = hear x m := by unfold hearMail; rw [if_neg (by simp [hn]), if_neg (by simp [hm])]
           have hu : upOk (newer x m) m = true := by unfold upOk; rw [hnw]; simp [followed, c3]
           have he2 : hear x m = ⟨0, votedN (newer x m) m, [grantM (newer x m) m]⟩ := by unfold hear; exact if_pos c2
           rw [he, he2]
           simp only [votedN, grantM, hu, if_true]
           simp [hnw, followed, eMail, c3]
       · skip
         refine D ?_
         refine cC (fun c6 => ?_) (fun c6 => ?_)
         · skip
           refine D ?_
           refine E ?_
           cases c6
         · skip
           refine D ?_
           refine E ?_
           have he : hearMail x m = hear x m := by unfold hearMail; rw [if_neg (by simp [hn]), if_neg (by simp [hm])]
           have hu : upOk (newer x m) m = false := by unfold upOk; rw [hnw]; first | exact c3 | simp [followed, c3]
           have he2 : hear x m = ⟨0, votedN (newer x m) m, [grantM (newer x m) m]⟩ := by unfold hear; exact if_pos c2
           rw [he, he2]
           simp only [votedN, grantM, hu, Bool.false_eq_true, if_false]
           first | (simp [hnw, followed, eMail, c3]; done) | (simp only [hnw, eMail, c3]; simp)
     · skip
       refine D ?_
       refine cC (fun c4 => ?_) (fun c4 => ?_)
       · skip
         refine D ?_
         refine kRk [28672] [] [73732, 73735, 73736, 73737] (s_impl_Node_granted (newer x m) K.lim K.c0 K.c1 K.p1 K.p2 K.p3 K.p4 K.rv K.nv m hme) ?_
         refine D ?_
         refine cC (fun c6 => ?_) (fun c6 => ?_)
         · skip
           refine D ?_
           refine E ?_
           cases c6
         · skip
           refine D ?_
           refine E ?_
           have he : hearMail x m = hear x m := by unfold hearMail; rw [if_neg (by simp [hn]), if_neg (by simp [hm])]
           have he2 : hear x m = ⟨0, grantedN (newer x m) m, []⟩ := by unfold hear; rw [if_neg c2, if_pos c4]
           simp [he, he2, hnw, followed]
       · skip
         refine D ?_
         refine cC (fun c5 => ?_) (fun c5 => ?_)
         · skip
           refine D ?_
           refine kRk [28672, 36864] [] [73732, 73735, 73736, 73737] (s_impl_Node_append (newer x m) K.lim K.c0 K.c1 m hme K.lf mlf mlt mix.1 mix.2) ?_
           refine D ?_
           refine cC (fun c6 => ?_) (fun c6 => ?_)
           · skip
             refine D ?_
             refine E ?_
             have he : hearMail x m = hear x m := by unfold hearMail; rw [if_neg (by simp [hn]), if_neg (by simp [hm])]
             have he2 : hear x m = badN (takenC (newer x m) m) := by unfold hear; rw [if_neg c2, if_neg c4, if_pos c5, if_pos (by rw [hnw]; exact c6)]
             simp [he, he2, hnw, followed, badN, zNode]
           · skip
             refine D ?_
             refine E ?_
             have he : hearMail x m = hear x m := by unfold hearMail; rw [if_neg (by simp [hn]), if_neg (by simp [hm])]
             have he2 : hear x m = ⟨0, takenN (newer x m) m, [takenM (newer x m) m]⟩ := by unfold hear; rw [if_neg c2, if_neg c4, if_pos c5, if_neg (by rw [hnw]; exact fun h => h c6)]
             simp [he, he2, hnw, followed, eMail, c6]
         · skip
           refine D ?_
           refine kRk [28672] [] [73732, 73735, 73736, 73737] (s_impl_Node_matched (newer x m) K.lim K.c0 K.c1 m hme m.from_.toNat (by omega) mix.1 mix.2 K.tl) ?_
           refine D ?_
           refine cC (fun c6 => ?_) (fun c6 => ?_)
           · skip
             refine D ?_
             refine E ?_
             cases c6
           · skip
             refine D ?_
             refine E ?_
             have he : hearMail x m = hear x m := by unfold hearMail; rw [if_neg (by simp [hn]), if_neg (by simp [hm])]
             have he2 : hear x m = ⟨0, toldN (newer x m) m, []⟩ := by unfold hear; rw [if_neg c2, if_neg c4, if_neg c5]
             simp [he, he2, hnw, followed]
end
section
attribute [local go_sem] rowV without
theorem s_impl_DeliverMail_1_ok (x : Cluster) (hx : limC 2097152 x) (n : Nat) (hn2 : n < x.mails.length) (hcf : clusterFault x = 0) (i : Nat) (hto : (x.mails.getD n zMail).to_ = i) (hi : i < x.nodes.length) (hmf : mailFault (x.nodes.getD i zNode) (x.mails.getD n zMail) = 0) (v : Value) (hok : doOk (without x n) i (hearMail (x.nodes.getD i zNode) (x.mails.getD n zMail)) = true) : SemX prog 76 [.one (.ptr 0 0), aS (eMail false (x.mails.getD n zMail)), aT (.ptr [.int .i64 n])] [.var [.sl true 10 (x.nodes.map (eNode true)), .sl true 9 ((x.mails.map (eMail true)).set n (rowV (x.mails.getD n zMail) v)), .sl true 2 (x.wins.map eWon), .sl true 10 (x.seals.map eSeal)]] [rI 0] [.var (eCluster true (doC (without x n) i (hearMail (x.nodes.getD i zNode) (x.mails.getD n zMail))))] := by
 refine goF [] [(2, 4, [1000000], []), (2, 6, [20480], []), (2, 7, [37888], []), (2, 8, [37888], []), (2, 9, [20480], []), (2, 10, [37888], [81925, 81928, 81929, 81930, 81931]), (2, 11, [1000000, 37888, 37889, 37890, 37891, 81925, 81928, 81929, 81930, 81931], [1000000, 81925, 81928, 81929, 81930, 81931, 37888, 37889, 37890, 37891, 87040, 87041, 87042, 87043])] [] func76 ?_
 obtain ⟨⟨hn, hN⟩, ⟨hm, hM⟩, hw, hs⟩ := id hx
 have hnf := (cl_nodes hcf hi).1
 have hln := (all_getD zNode).2 hN i hi
 have hlm : (x.mails.getD n zMail).entries.length ≤ 2097152 := (all_getD zMail).2 hM n hn2
 have hsw := fun v => set_without (eMail true) x.mails n (rowV (x.mails.getD n zMail) v)
 have hcp : ∀ v, cpRows none (((x.mails.map (eMail true)).set n (rowV (x.mails.getD n zMail) v)).drop (n + 1)) = True := fun v => by rw [List.drop_set_of_lt (Nat.lt_succ_self _), ← List.map_drop]; exact cpRows_Mail ..
 have hsh : ∀ v, T.noShR (((x.mails.map (eMail true)).set n (rowV (x.mails.getD n zMail) v)).take n ++ ((x.mails.map (eMail true)).set n (rowV (x.mails.getD n zMail) v)).drop (n + 1)) = True := fun v => by rw [hsw]; exact noShR_Mail _
 have hal : ∀ v, T.noShR ((x.mails.map (eMail true)).set n (rowV (x.mails.getD n zMail) v)) = True := fun v => eq_true (noShR_set (by rw [noShR_Mail]; trivial) (by simp [rowV, T.noShL, T.noSh]))
 have hsw2 := hsw
 have hcp2 := hcp
 have hsh2 := hsh
 have hal2 := hal
 simp only [rowV, hto] at hsw2 hcp2 hsh2 hal2
 have hA := And.intro hto (And.intro hsw2 (And.intro hcp2 (And.intro hsh2 (hal2))))
 refine D ?_
 refine kRk [1000000] [] [1000001, 1000002, 1000003, 1000004] (s_impl_Cluster_drop (x.nodes.map (eNode true)) ((x.mails.map (eMail true)).set n (rowV (x.mails.getD n zMail) v)) (x.wins.map eWon) (x.seals.map eSeal) n (by simp; omega) (by simpa using hn2) (hcp v) (hsh v) (noShR_Node _) (hal v) (noShR_Won _) (noShR_Seal _)) ?_
 refine D ?_
 refine kD (s_impl_HearMail (x.nodes.getD i zNode) hln (x.mails.getD n zMail) hlm) ?_
 refine D ?_
 refine kDk [1000000] [81925, 81928, 81929, 81930, 81931] [37888, 37889, 37890, 37891] (s_impl_Cluster_do_ok (without x n) (without_lim hx n) i hi (hearMail (x.nodes.getD i zNode) (x.mails.getD n zMail)) (hear_lim (by omega) hln (by omega)) (hear_commit hln) (fun h => (hear_id h).trans (cl_nodes hcf hi).2.1) (cl_wins hcf).1 hok) ?_
 refine D ?_
 exact E trivial
end
section
attribute [local go_sem] rowV without
theorem s_impl_DeliverMail_1_no (x : Cluster) (hx : limC 2097152 x) (n : Nat) (hn2 : n < x.mails.length) (hcf : clusterFault x = 0) (i : Nat) (hto : (x.mails.getD n zMail).to_ = i) (hi : i < x.nodes.length) (hmf : mailFault (x.nodes.getD i zNode) (x.mails.getD n zMail) = 0) (v : Value) (hok : doOk (without x n) i (hearMail (x.nodes.getD i zNode) (x.mails.getD n zMail)) = false) : SemX prog 76 [.one (.ptr 0 0), aS (eMail false (x.mails.getD n zMail)), aT (.ptr [.int .i64 n])] [.var [.sl true 10 (x.nodes.map (eNode true)), .sl true 9 ((x.mails.map (eMail true)).set n (rowV (x.mails.getD n zMail) v)), .sl true 2 (x.wins.map eWon), .sl true 10 (x.seals.map eSeal)]] [rI (if (hearMail (x.nodes.getD i zNode) (x.mails.getD n zMail)).code ≠ 0 then (hearMail (x.nodes.getD i zNode) (x.mails.getD n zMail)).code else 2)] [.var [.junk, .junk, .junk, .junk]] := by
 refine goF [] [(2, 4, [1000000], []), (2, 6, [20480], []), (2, 7, [37888], []), (2, 8, [37888], []), (2, 9, [20480], []), (2, 10, [37888], [81925, 81928, 81929, 81930, 81931]), (2, 11, [1000000, 37888, 37889, 37890, 37891, 81925, 81928, 81929, 81930, 81931], [1000000, 81925, 81928, 81929, 81930, 81931, 37888, 37889, 37890, 37891])] [] func76 ?_
 obtain ⟨⟨hn, hN⟩, ⟨hm, hM⟩, hw, hs⟩ := id hx
 have hnf := (cl_nodes hcf hi).1
 have hln := (all_getD zNode).2 hN i hi
 have hlm : (x.mails.getD n zMail).entries.length ≤ 2097152 := (all_getD zMail).2 hM n hn2
 have hsw := fun v => set_without (eMail true) x.mails n (rowV (x.mails.getD n zMail) v)
 have hcp : ∀ v, cpRows none (((x.mails.map (eMail true)).set n (rowV (x.mails.getD n zMail) v)).drop (n + 1)) = True := fun v => by rw [List.drop_set_of_lt (Nat.lt_succ_self _), ← List.map_drop]; exact cpRows_Mail ..
 have hsh : ∀ v, T.noShR (((x.mails.map (eMail true)).set n (rowV (x.mails.getD n zMail) v)).take n ++ ((x.mails.map (eMail true)).set n (rowV (x.mails.getD n zMail) v)).drop (n + 1)) = True := fun v => by rw [hsw]; exact noShR_Mail _
 have hal : ∀ v, T.noShR ((x.mails.map (eMail true)).set n (rowV (x.mails.getD n zMail) v)) = True := fun v => eq_true (noShR_set (by rw [noShR_Mail]; trivial) (by simp [rowV, T.noShL, T.noSh]))
 have hsw2 := hsw
 have hcp2 := hcp
 have hsh2 := hsh
 have hal2 := hal
 simp only [rowV, hto] at hsw2 hcp2 hsh2 hal2
 have hA := And.intro hto (And.intro hsw2 (And.intro hcp2 (And.intro hsh2 (hal2))))
 refine D ?_
 refine kRk [1000000] [] [1000001, 1000002, 1000003, 1000004] (s_impl_Cluster_drop (x.nodes.map (eNode true)) ((x.mails.map (eMail true)).set n (rowV (x.mails.getD n zMail) v)) (x.wins.map eWon) (x.seals.map eSeal) n (by simp; omega) (by simpa using hn2) (hcp v) (hsh v) (noShR_Node _) (hal v) (noShR_Won _) (noShR_Seal _)) ?_
 refine D ?_
 refine kD (s_impl_HearMail (x.nodes.getD i zNode) hln (x.mails.getD n zMail) hlm) ?_
 refine D ?_
 refine kDk [1000000] [81925, 81928, 81929, 81930, 81931] [37888, 37889, 37890, 37891] (s_impl_Cluster_do_no (without x n) (without_lim hx n) i hi (hearMail (x.nodes.getD i zNode) (x.mails.getD n zMail)) (hear_lim (by omega) hln (by omega)) (hear_commit hln) (fun h => (hear_id h).trans (cl_nodes hcf hi).2.1) (cl_wins hcf).1 hok) ?_
 refine D ?_
 exact E trivial
end
end Go.H
end
