/- What the functions that several laws reach compute, each by its code, against pure functions. Conditions: those that each theorem states. -/
import Derived.Test.YtcbjkkpniphhpaaGreatQH3
import Derived.Test.YtcbjkkpniphhpaaGreatProg
import Derived.KernelRfl
section
set_option linter.unusedSimpArgs false
namespace Go.H
open Go
def cpT : Dep → T → Prop
  | none, t => t.solid = true
  | some _, t => t.flat = true
def cpL (d : Dep) : List T → Prop
  | [] => True
  | t :: ts => cpT d t ∧ cpL d ts
theorem cpL_iff {d : Dep} : ∀ {r : List T}, cpL d r ↔ ∀ t ∈ r, cpT d t
  | [] => by simp [cpL]
  | t :: ts => by simp [cpL, cpL_iff (r := ts)]
theorem cpRows_cons (d : Dep) (r : List T) (rs : List (List T)) : cpRows d (r :: rs) = (cpL d r ∧ cpRows d rs) := by
  rw [eq_iff_iff, cpL_iff]
  cases d <;> simp [cpRows, cpT]
theorem cpRows_nil (d : Dep) : cpRows d [] = True := by
  cases d <;> simp [cpRows]
attribute [go_sem] cpRows_cons cpRows_nil cpL cpT T.solid T.flat
theorem cpRowsN_map {α : Type} (f : α → List T) (h : ∀ x, ∀ t ∈ f x, t.solid = true) (xs : List α) : cpRows none (xs.map f) = True := by
  rw [eq_iff_iff]
  unfold cpRows
  simp only [List.mem_map, iff_true]
  rintro r ⟨x, _, rfl⟩ t ht
  exact h x t ht
theorem getD_map_ {α : Type} (f : α → List T) (xs : List α) (i : Nat) (d : α) : (xs.map f).getD i (f d) = f (xs.getD i d) := by
  simp only [List.getD_eq_getElem?_getD, List.getElem?_map]
  cases xs[i]? <;> rfl
theorem noShR_map {α : Type} (f : α → List T) (h : ∀ x, T.noShL (f x)) (xs : List α) : T.noShR (xs.map f) = True := by
  rw [eq_iff_iff, T.noShR_iff]
  simp only [List.mem_map, forall_exists_index, and_imp, forall_apply_eq_imp_iff₂, h, implies_true]
theorem roRows_map {α : Type} (f g : α → List T) (h : ∀ x, (f x).map T.ro = g x) (xs : List α) : roRows (xs.map f) = xs.map g := by
  simp only [roRows, List.map_map]
  exact List.map_congr_left fun x _ => h x
theorem cpRows_map {α : Type} (f : α → List T) (h : ∀ x, ∀ t ∈ f x, t.flat = true) (d : Dep) (xs : List α) : cpRows d (xs.map f) = True := by
  rw [eq_iff_iff]
  unfold cpRows
  cases d
  · simp only [List.mem_map, iff_true]
    rintro r ⟨x, _, rfl⟩ t ht
    exact T.flat_solid (h x t ht)
  · simp only [List.mem_map, iff_true]
    rintro r ⟨x, _, rfl⟩ t ht
    exact h x t ht
def eI_i64 (n : Int) : List T := [.int .i64 n]
def zI_i64 : Int := 0
def dI_i64 : List T := eI_i64 zI_i64
theorem getD_I_i64 (xs : List Int) (i : Nat) : (xs.map eI_i64).getD i dI_i64 = eI_i64 (xs.getD i zI_i64) := getD_map_ ..
theorem shrR_I_i64 (xs : List Int) : T.shrR (xs.map eI_i64) = xs.map eI_i64 := T.shrR_map _ _ (fun _ => rfl) xs
theorem noShR_I_i64 (xs : List Int) : T.noShR (xs.map eI_i64) = True := noShR_map _ (fun _ => by simp [eI_i64, T.noShL, T.noSh]) xs
theorem roRows_I_i64 (xs : List Int) : roRows (xs.map eI_i64) = xs.map eI_i64 := roRows_map _ _ (fun _ => rfl) xs
theorem cpRows_I_i64 (d : Dep) (xs : List Int) : cpRows d (xs.map eI_i64) = True := cpRows_map _ (fun _ => by simp [eI_i64, T.flat]) d xs
attribute [go_sem] getD_I_i64 shrR_I_i64 noShR_I_i64 roRows_I_i64 cpRows_I_i64
theorem dropd_I_i64 : List.drop 1 dI_i64 = [] := rfl
theorem tm_I_i64 : tm dI_i64 = [.int .i64 0] := rfl
attribute [go_sem] dropd_I_i64 tm_I_i64
structure Backend where
  name : Int
  address : Int
  weight : Int
  stage : Int
  up : Bool
def eBackend (x : Backend) : List T := [.int .i64 x.name, .int .i64 x.address, .int .i64 x.weight, .int .i64 x.stage, .bool x.up]
def zBackend : Backend := ⟨0, 0, 0, 0, false⟩
def dBackend : List T := eBackend zBackend
theorem getD_Backend (xs : List Backend) (i : Nat) : (xs.map eBackend).getD i dBackend = eBackend (xs.getD i zBackend) := getD_map_ ..
theorem shrR_Backend (xs : List Backend) : T.shrR (xs.map eBackend) = xs.map eBackend := T.shrR_map _ _ (fun _ => rfl) xs
theorem noShR_Backend (xs : List Backend) : T.noShR (xs.map eBackend) = True := noShR_map _ (fun _ => by simp [eBackend, T.noShL, T.noSh]) xs
theorem roRows_Backend (xs : List Backend) : roRows (xs.map eBackend) = xs.map eBackend := roRows_map _ _ (fun _ => rfl) xs
theorem cpRows_Backend (d : Dep) (xs : List Backend) : cpRows d (xs.map eBackend) = True := cpRows_map _ (fun _ => by simp [eBackend, T.flat]) d xs
attribute [go_sem] getD_Backend shrR_Backend noShR_Backend roRows_Backend cpRows_Backend
theorem dropd_Backend : List.drop 5 dBackend = [] := rfl
theorem tm_Backend : tm dBackend = [.int .i64 0, .int .i64 0, .int .i64 0, .int .i64 0, .bool false] := rfl
attribute [go_sem] dropd_Backend tm_Backend
structure Vip where
  address : Int
  port : Int
  proto : Int
  names : List Int
def eVip (o : Bool) (x : Vip) : List T := [.int .i64 x.address, .int .i64 x.port, .int .i64 x.proto, .sl o 1 (x.names.map eI_i64)]
def zVip : Vip := ⟨0, 0, 0, []⟩
def dVip (o : Bool) : List T := eVip o zVip
theorem getD_Vip (o : Bool) (xs : List Vip) (i : Nat) : (xs.map (eVip o)).getD i (dVip o) = eVip o (xs.getD i zVip) := getD_map_ ..
theorem shrR_Vip (o : Bool) (xs : List Vip) : T.shrR (xs.map (eVip o)) = xs.map (eVip false) := T.shrR_map _ _ (fun x => by simp only [eVip, T.shrL, T.shr, shrR_I_i64]) xs
theorem noShR_Vip (xs : List Vip) : T.noShR (xs.map (eVip true)) = True := noShR_map _ (fun _ => by simp [eVip, T.noShL, T.noSh, noShR_I_i64]) xs
theorem cpRows_Vip (o : Bool) (xs : List Vip) : cpRows none (xs.map (eVip o)) = True := cpRowsN_map _ (fun _ => by simp [eVip, T.solid]) xs
attribute [go_sem] getD_Vip shrR_Vip noShR_Vip cpRows_Vip
theorem dropd_Vip (o : Bool) : List.drop 4 (dVip o) = [] := rfl
theorem tm_Vip : tm (dVip true) = [.int .i64 0, .int .i64 0, .int .i64 0, .sl true 1 []] := rfl
attribute [go_sem] dropd_Vip tm_Vip
def qVip (x : Vip) : Prop := x.names.length ≤ 9223372036854775807
structure Config where
  version : Int
  backends : List Backend
  vips : List Vip
def eConfig (o : Bool) (x : Config) : List T := [.int .i64 x.version, .sl o 5 (x.backends.map eBackend), .sl o 4 (x.vips.map (eVip o))]
def zConfig : Config := ⟨0, [], []⟩
def dConfig (o : Bool) : List T := eConfig o zConfig
theorem getD_Config (o : Bool) (xs : List Config) (i : Nat) : (xs.map (eConfig o)).getD i (dConfig o) = eConfig o (xs.getD i zConfig) := getD_map_ ..
theorem shrR_Config (o : Bool) (xs : List Config) : T.shrR (xs.map (eConfig o)) = xs.map (eConfig false) := T.shrR_map _ _ (fun x => by simp only [eConfig, T.shrL, T.shr, shrR_Backend, shrR_Vip]) xs
theorem noShR_Config (xs : List Config) : T.noShR (xs.map (eConfig true)) = True := noShR_map _ (fun _ => by simp [eConfig, T.noShL, T.noSh, noShR_Backend, noShR_Vip]) xs
theorem cpRows_Config (o : Bool) (xs : List Config) : cpRows none (xs.map (eConfig o)) = True := cpRowsN_map _ (fun _ => by simp [eConfig, T.solid]) xs
attribute [go_sem] getD_Config shrR_Config noShR_Config cpRows_Config
theorem dropd_Config (o : Bool) : List.drop 3 (dConfig o) = [] := rfl
theorem tm_Config : tm (dConfig true) = [.int .i64 0, .sl true 5 [], .sl true 4 []] := rfl
attribute [go_sem] dropd_Config tm_Config
def qConfig (x : Config) : Prop := x.backends.length ≤ 9223372036854775807 ∧ (x.vips.length ≤ 9223372036854775807 ∧ ∀ y ∈ x.vips, qVip y)
structure ConfigResult where
  code : Int
  config : Config
def eConfigResult (o : Bool) (x : ConfigResult) : List T := [.int .i64 x.code, .int .i64 x.config.version, .sl o 5 (x.config.backends.map eBackend), .sl o 4 (x.config.vips.map (eVip o))]
def zConfigResult : ConfigResult := ⟨0, zConfig⟩
def dConfigResult (o : Bool) : List T := eConfigResult o zConfigResult
theorem getD_ConfigResult (o : Bool) (xs : List ConfigResult) (i : Nat) : (xs.map (eConfigResult o)).getD i (dConfigResult o) = eConfigResult o (xs.getD i zConfigResult) := getD_map_ ..
theorem shrR_ConfigResult (o : Bool) (xs : List ConfigResult) : T.shrR (xs.map (eConfigResult o)) = xs.map (eConfigResult false) := T.shrR_map _ _ (fun x => by simp only [eConfigResult, T.shrL, T.shr, shrR_Backend, shrR_Vip]) xs
theorem noShR_ConfigResult (xs : List ConfigResult) : T.noShR (xs.map (eConfigResult true)) = True := noShR_map _ (fun _ => by simp [eConfigResult, T.noShL, T.noSh, noShR_Backend, noShR_Vip]) xs
theorem cpRows_ConfigResult (o : Bool) (xs : List ConfigResult) : cpRows none (xs.map (eConfigResult o)) = True := cpRowsN_map _ (fun _ => by simp [eConfigResult, T.solid]) xs
attribute [go_sem] getD_ConfigResult shrR_ConfigResult noShR_ConfigResult cpRows_ConfigResult
theorem dropd_ConfigResult (o : Bool) : List.drop 4 (dConfigResult o) = [] := rfl
theorem tm_ConfigResult : tm (dConfigResult true) = [.int .i64 0, .int .i64 0, .sl true 5 [], .sl true 4 []] := rfl
attribute [go_sem] dropd_ConfigResult tm_ConfigResult
def qConfigResult (x : ConfigResult) : Prop := qConfig x.config
structure Cmd where
  kind : Int
  expect : Int
  name : Int
  addr : Int
  number : Int
  proto : Int
def eCmd (x : Cmd) : List T := [.int .i64 x.kind, .int .i64 x.expect, .int .i64 x.name, .int .i64 x.addr, .int .i64 x.number, .int .i64 x.proto]
def zCmd : Cmd := ⟨0, 0, 0, 0, 0, 0⟩
def dCmd : List T := eCmd zCmd
theorem getD_Cmd (xs : List Cmd) (i : Nat) : (xs.map eCmd).getD i dCmd = eCmd (xs.getD i zCmd) := getD_map_ ..
theorem shrR_Cmd (xs : List Cmd) : T.shrR (xs.map eCmd) = xs.map eCmd := T.shrR_map _ _ (fun _ => rfl) xs
theorem noShR_Cmd (xs : List Cmd) : T.noShR (xs.map eCmd) = True := noShR_map _ (fun _ => by simp [eCmd, T.noShL, T.noSh]) xs
theorem roRows_Cmd (xs : List Cmd) : roRows (xs.map eCmd) = xs.map eCmd := roRows_map _ _ (fun _ => rfl) xs
theorem cpRows_Cmd (d : Dep) (xs : List Cmd) : cpRows d (xs.map eCmd) = True := cpRows_map _ (fun _ => by simp [eCmd, T.flat]) d xs
attribute [go_sem] getD_Cmd shrR_Cmd noShR_Cmd roRows_Cmd cpRows_Cmd
theorem dropd_Cmd : List.drop 6 dCmd = [] := rfl
theorem tm_Cmd : tm dCmd = [.int .i64 0, .int .i64 0, .int .i64 0, .int .i64 0, .int .i64 0, .int .i64 0] := rfl
attribute [go_sem] dropd_Cmd tm_Cmd
structure Session where
  client : Int
  seq : Int
  code : Int
def eSession (x : Session) : List T := [.int .i64 x.client, .int .i64 x.seq, .int .i64 x.code]
def zSession : Session := ⟨0, 0, 0⟩
def dSession : List T := eSession zSession
theorem getD_Session (xs : List Session) (i : Nat) : (xs.map eSession).getD i dSession = eSession (xs.getD i zSession) := getD_map_ ..
theorem shrR_Session (xs : List Session) : T.shrR (xs.map eSession) = xs.map eSession := T.shrR_map _ _ (fun _ => rfl) xs
theorem noShR_Session (xs : List Session) : T.noShR (xs.map eSession) = True := noShR_map _ (fun _ => by simp [eSession, T.noShL, T.noSh]) xs
theorem roRows_Session (xs : List Session) : roRows (xs.map eSession) = xs.map eSession := roRows_map _ _ (fun _ => rfl) xs
theorem cpRows_Session (d : Dep) (xs : List Session) : cpRows d (xs.map eSession) = True := cpRows_map _ (fun _ => by simp [eSession, T.flat]) d xs
attribute [go_sem] getD_Session shrR_Session noShR_Session roRows_Session cpRows_Session
theorem dropd_Session : List.drop 3 dSession = [] := rfl
theorem tm_Session : tm dSession = [.int .i64 0, .int .i64 0, .int .i64 0] := rfl
attribute [go_sem] dropd_Session tm_Session
structure Machine where
  config : Config
  sessions : List Session
def eMachine (o : Bool) (x : Machine) : List T := [.int .i64 x.config.version, .sl o 5 (x.config.backends.map eBackend), .sl o 4 (x.config.vips.map (eVip o)), .sl o 3 (x.sessions.map eSession)]
def zMachine : Machine := ⟨zConfig, []⟩
def dMachine (o : Bool) : List T := eMachine o zMachine
theorem getD_Machine (o : Bool) (xs : List Machine) (i : Nat) : (xs.map (eMachine o)).getD i (dMachine o) = eMachine o (xs.getD i zMachine) := getD_map_ ..
theorem shrR_Machine (o : Bool) (xs : List Machine) : T.shrR (xs.map (eMachine o)) = xs.map (eMachine false) := T.shrR_map _ _ (fun x => by simp only [eMachine, T.shrL, T.shr, shrR_Backend, shrR_Session, shrR_Vip]) xs
theorem noShR_Machine (xs : List Machine) : T.noShR (xs.map (eMachine true)) = True := noShR_map _ (fun _ => by simp [eMachine, T.noShL, T.noSh, noShR_Backend, noShR_Session, noShR_Vip]) xs
theorem cpRows_Machine (o : Bool) (xs : List Machine) : cpRows none (xs.map (eMachine o)) = True := cpRowsN_map _ (fun _ => by simp [eMachine, T.solid]) xs
attribute [go_sem] getD_Machine shrR_Machine noShR_Machine cpRows_Machine
theorem dropd_Machine (o : Bool) : List.drop 4 (dMachine o) = [] := rfl
theorem tm_Machine : tm (dMachine true) = [.int .i64 0, .sl true 5 [], .sl true 4 [], .sl true 3 []] := rfl
attribute [go_sem] dropd_Machine tm_Machine
def qMachine (x : Machine) : Prop := qConfig x.config ∧ x.sessions.length ≤ 9223372036854775807
structure MachineResult where
  code : Int
  reply : Int
  fresh : Bool
  machine : Machine
def eMachineResult (o : Bool) (x : MachineResult) : List T := [.int .i64 x.code, .int .i64 x.reply, .bool x.fresh, .int .i64 x.machine.config.version, .sl o 5 (x.machine.config.backends.map eBackend), .sl o 4 (x.machine.config.vips.map (eVip o)), .sl o 3 (x.machine.sessions.map eSession)]
def zMachineResult : MachineResult := ⟨0, 0, false, zMachine⟩
def dMachineResult (o : Bool) : List T := eMachineResult o zMachineResult
theorem getD_MachineResult (o : Bool) (xs : List MachineResult) (i : Nat) : (xs.map (eMachineResult o)).getD i (dMachineResult o) = eMachineResult o (xs.getD i zMachineResult) := getD_map_ ..
theorem shrR_MachineResult (o : Bool) (xs : List MachineResult) : T.shrR (xs.map (eMachineResult o)) = xs.map (eMachineResult false) := T.shrR_map _ _ (fun x => by simp only [eMachineResult, T.shrL, T.shr, shrR_Backend, shrR_Session, shrR_Vip]) xs
theorem noShR_MachineResult (xs : List MachineResult) : T.noShR (xs.map (eMachineResult true)) = True := noShR_map _ (fun _ => by simp [eMachineResult, T.noShL, T.noSh, noShR_Backend, noShR_Session, noShR_Vip]) xs
theorem cpRows_MachineResult (o : Bool) (xs : List MachineResult) : cpRows none (xs.map (eMachineResult o)) = True := cpRowsN_map _ (fun _ => by simp [eMachineResult, T.solid]) xs
attribute [go_sem] getD_MachineResult shrR_MachineResult noShR_MachineResult cpRows_MachineResult
theorem dropd_MachineResult (o : Bool) : List.drop 7 (dMachineResult o) = [] := rfl
theorem tm_MachineResult : tm (dMachineResult true) = [.int .i64 0, .int .i64 0, .bool false, .int .i64 0, .sl true 5 [], .sl true 4 [], .sl true 3 []] := rfl
attribute [go_sem] dropd_MachineResult tm_MachineResult
def qMachineResult (x : MachineResult) : Prop := qMachine x.machine
structure Entry where
  term : Int
  client : Int
  seq : Int
  cmd : Cmd
def eEntry (x : Entry) : List T := [.int .i64 x.term, .int .i64 x.client, .int .i64 x.seq, .int .i64 x.cmd.kind, .int .i64 x.cmd.expect, .int .i64 x.cmd.name, .int .i64 x.cmd.addr, .int .i64 x.cmd.number, .int .i64 x.cmd.proto]
def zEntry : Entry := ⟨0, 0, 0, zCmd⟩
def dEntry : List T := eEntry zEntry
theorem getD_Entry (xs : List Entry) (i : Nat) : (xs.map eEntry).getD i dEntry = eEntry (xs.getD i zEntry) := getD_map_ ..
theorem shrR_Entry (xs : List Entry) : T.shrR (xs.map eEntry) = xs.map eEntry := T.shrR_map _ _ (fun _ => rfl) xs
theorem noShR_Entry (xs : List Entry) : T.noShR (xs.map eEntry) = True := noShR_map _ (fun _ => by simp [eEntry, T.noShL, T.noSh]) xs
theorem roRows_Entry (xs : List Entry) : roRows (xs.map eEntry) = xs.map eEntry := roRows_map _ _ (fun _ => rfl) xs
theorem cpRows_Entry (d : Dep) (xs : List Entry) : cpRows d (xs.map eEntry) = True := cpRows_map _ (fun _ => by simp [eEntry, T.flat]) d xs
attribute [go_sem] getD_Entry shrR_Entry noShR_Entry roRows_Entry cpRows_Entry
theorem dropd_Entry : List.drop 9 dEntry = [] := rfl
theorem tm_Entry : tm dEntry = [.int .i64 0, .int .i64 0, .int .i64 0, .int .i64 0, .int .i64 0, .int .i64 0, .int .i64 0, .int .i64 0, .int .i64 0] := rfl
attribute [go_sem] dropd_Entry tm_Entry
structure ConfigsResult where
  code : Int
  configs : List Config
def eConfigsResult (o : Bool) (x : ConfigsResult) : List T := [.int .i64 x.code, .sl o 3 (x.configs.map (eConfig o))]
def zConfigsResult : ConfigsResult := ⟨0, []⟩
def dConfigsResult (o : Bool) : List T := eConfigsResult o zConfigsResult
theorem getD_ConfigsResult (o : Bool) (xs : List ConfigsResult) (i : Nat) : (xs.map (eConfigsResult o)).getD i (dConfigsResult o) = eConfigsResult o (xs.getD i zConfigsResult) := getD_map_ ..
theorem shrR_ConfigsResult (o : Bool) (xs : List ConfigsResult) : T.shrR (xs.map (eConfigsResult o)) = xs.map (eConfigsResult false) := T.shrR_map _ _ (fun x => by simp only [eConfigsResult, T.shrL, T.shr, shrR_Config]) xs
theorem noShR_ConfigsResult (xs : List ConfigsResult) : T.noShR (xs.map (eConfigsResult true)) = True := noShR_map _ (fun _ => by simp [eConfigsResult, T.noShL, T.noSh, noShR_Config]) xs
theorem cpRows_ConfigsResult (o : Bool) (xs : List ConfigsResult) : cpRows none (xs.map (eConfigsResult o)) = True := cpRowsN_map _ (fun _ => by simp [eConfigsResult, T.solid]) xs
attribute [go_sem] getD_ConfigsResult shrR_ConfigsResult noShR_ConfigsResult cpRows_ConfigsResult
theorem dropd_ConfigsResult (o : Bool) : List.drop 2 (dConfigsResult o) = [] := rfl
theorem tm_ConfigsResult : tm (dConfigsResult true) = [.int .i64 0, .sl true 3 []] := rfl
attribute [go_sem] dropd_ConfigsResult tm_ConfigsResult
def qConfigsResult (x : ConfigsResult) : Prop := (x.configs.length ≤ 9223372036854775807 ∧ ∀ y ∈ x.configs, qConfig y)
structure Update where
  from_ : Int
  to_ : Int
  full : Bool
  config : Config
  cmds : List Cmd
def eUpdate (o : Bool) (x : Update) : List T := [.int .i64 x.from_, .int .i64 x.to_, .bool x.full, .int .i64 x.config.version, .sl o 5 (x.config.backends.map eBackend), .sl o 4 (x.config.vips.map (eVip o)), .sl o 6 (x.cmds.map eCmd)]
def zUpdate : Update := ⟨0, 0, false, zConfig, []⟩
def dUpdate (o : Bool) : List T := eUpdate o zUpdate
theorem getD_Update (o : Bool) (xs : List Update) (i : Nat) : (xs.map (eUpdate o)).getD i (dUpdate o) = eUpdate o (xs.getD i zUpdate) := getD_map_ ..
theorem shrR_Update (o : Bool) (xs : List Update) : T.shrR (xs.map (eUpdate o)) = xs.map (eUpdate false) := T.shrR_map _ _ (fun x => by simp only [eUpdate, T.shrL, T.shr, shrR_Backend, shrR_Cmd, shrR_Vip]) xs
theorem noShR_Update (xs : List Update) : T.noShR (xs.map (eUpdate true)) = True := noShR_map _ (fun _ => by simp [eUpdate, T.noShL, T.noSh, noShR_Backend, noShR_Cmd, noShR_Vip]) xs
theorem cpRows_Update (o : Bool) (xs : List Update) : cpRows none (xs.map (eUpdate o)) = True := cpRowsN_map _ (fun _ => by simp [eUpdate, T.solid]) xs
attribute [go_sem] getD_Update shrR_Update noShR_Update cpRows_Update
theorem dropd_Update (o : Bool) : List.drop 7 (dUpdate o) = [] := rfl
theorem tm_Update : tm (dUpdate true) = [.int .i64 0, .int .i64 0, .bool false, .int .i64 0, .sl true 5 [], .sl true 4 [], .sl true 6 []] := rfl
attribute [go_sem] dropd_Update tm_Update
def qUpdate (x : Update) : Prop := qConfig x.config ∧ x.cmds.length ≤ 9223372036854775807
structure UpdateResult where
  code : Int
  update : Update
def eUpdateResult (o : Bool) (x : UpdateResult) : List T := [.int .i64 x.code, .int .i64 x.update.from_, .int .i64 x.update.to_, .bool x.update.full, .int .i64 x.update.config.version, .sl o 5 (x.update.config.backends.map eBackend), .sl o 4 (x.update.config.vips.map (eVip o)), .sl o 6 (x.update.cmds.map eCmd)]
def zUpdateResult : UpdateResult := ⟨0, zUpdate⟩
def dUpdateResult (o : Bool) : List T := eUpdateResult o zUpdateResult
theorem getD_UpdateResult (o : Bool) (xs : List UpdateResult) (i : Nat) : (xs.map (eUpdateResult o)).getD i (dUpdateResult o) = eUpdateResult o (xs.getD i zUpdateResult) := getD_map_ ..
theorem shrR_UpdateResult (o : Bool) (xs : List UpdateResult) : T.shrR (xs.map (eUpdateResult o)) = xs.map (eUpdateResult false) := T.shrR_map _ _ (fun x => by simp only [eUpdateResult, T.shrL, T.shr, shrR_Backend, shrR_Cmd, shrR_Vip]) xs
theorem noShR_UpdateResult (xs : List UpdateResult) : T.noShR (xs.map (eUpdateResult true)) = True := noShR_map _ (fun _ => by simp [eUpdateResult, T.noShL, T.noSh, noShR_Backend, noShR_Cmd, noShR_Vip]) xs
theorem cpRows_UpdateResult (o : Bool) (xs : List UpdateResult) : cpRows none (xs.map (eUpdateResult o)) = True := cpRowsN_map _ (fun _ => by simp [eUpdateResult, T.solid]) xs
attribute [go_sem] getD_UpdateResult shrR_UpdateResult noShR_UpdateResult cpRows_UpdateResult
theorem dropd_UpdateResult (o : Bool) : List.drop 8 (dUpdateResult o) = [] := rfl
theorem tm_UpdateResult : tm (dUpdateResult true) = [.int .i64 0, .int .i64 0, .int .i64 0, .bool false, .int .i64 0, .sl true 5 [], .sl true 4 [], .sl true 6 []] := rfl
attribute [go_sem] dropd_UpdateResult tm_UpdateResult
def qUpdateResult (x : UpdateResult) : Prop := qUpdate x.update
structure Watch where
  ready : Bool
  config : Config
def eWatch (o : Bool) (x : Watch) : List T := [.bool x.ready, .int .i64 x.config.version, .sl o 5 (x.config.backends.map eBackend), .sl o 4 (x.config.vips.map (eVip o))]
def zWatch : Watch := ⟨false, zConfig⟩
def dWatch (o : Bool) : List T := eWatch o zWatch
theorem getD_Watch (o : Bool) (xs : List Watch) (i : Nat) : (xs.map (eWatch o)).getD i (dWatch o) = eWatch o (xs.getD i zWatch) := getD_map_ ..
theorem shrR_Watch (o : Bool) (xs : List Watch) : T.shrR (xs.map (eWatch o)) = xs.map (eWatch false) := T.shrR_map _ _ (fun x => by simp only [eWatch, T.shrL, T.shr, shrR_Backend, shrR_Vip]) xs
theorem noShR_Watch (xs : List Watch) : T.noShR (xs.map (eWatch true)) = True := noShR_map _ (fun _ => by simp [eWatch, T.noShL, T.noSh, noShR_Backend, noShR_Vip]) xs
theorem cpRows_Watch (o : Bool) (xs : List Watch) : cpRows none (xs.map (eWatch o)) = True := cpRowsN_map _ (fun _ => by simp [eWatch, T.solid]) xs
attribute [go_sem] getD_Watch shrR_Watch noShR_Watch cpRows_Watch
theorem dropd_Watch (o : Bool) : List.drop 4 (dWatch o) = [] := rfl
theorem tm_Watch : tm (dWatch true) = [.bool false, .int .i64 0, .sl true 5 [], .sl true 4 []] := rfl
attribute [go_sem] dropd_Watch tm_Watch
def qWatch (x : Watch) : Prop := qConfig x.config
structure WatchResult where
  code : Int
  watch : Watch
def eWatchResult (o : Bool) (x : WatchResult) : List T := [.int .i64 x.code, .bool x.watch.ready, .int .i64 x.watch.config.version, .sl o 5 (x.watch.config.backends.map eBackend), .sl o 4 (x.watch.config.vips.map (eVip o))]
def zWatchResult : WatchResult := ⟨0, zWatch⟩
def dWatchResult (o : Bool) : List T := eWatchResult o zWatchResult
theorem getD_WatchResult (o : Bool) (xs : List WatchResult) (i : Nat) : (xs.map (eWatchResult o)).getD i (dWatchResult o) = eWatchResult o (xs.getD i zWatchResult) := getD_map_ ..
theorem shrR_WatchResult (o : Bool) (xs : List WatchResult) : T.shrR (xs.map (eWatchResult o)) = xs.map (eWatchResult false) := T.shrR_map _ _ (fun x => by simp only [eWatchResult, T.shrL, T.shr, shrR_Backend, shrR_Vip]) xs
theorem noShR_WatchResult (xs : List WatchResult) : T.noShR (xs.map (eWatchResult true)) = True := noShR_map _ (fun _ => by simp [eWatchResult, T.noShL, T.noSh, noShR_Backend, noShR_Vip]) xs
theorem cpRows_WatchResult (o : Bool) (xs : List WatchResult) : cpRows none (xs.map (eWatchResult o)) = True := cpRowsN_map _ (fun _ => by simp [eWatchResult, T.solid]) xs
attribute [go_sem] getD_WatchResult shrR_WatchResult noShR_WatchResult cpRows_WatchResult
theorem dropd_WatchResult (o : Bool) : List.drop 5 (dWatchResult o) = [] := rfl
theorem tm_WatchResult : tm (dWatchResult true) = [.int .i64 0, .bool false, .int .i64 0, .sl true 5 [], .sl true 4 []] := rfl
attribute [go_sem] dropd_WatchResult tm_WatchResult
def qWatchResult (x : WatchResult) : Prop := qWatch x.watch
structure IntResult where
  code : Int
  value : Int
def eIntResult (x : IntResult) : List T := [.int .i64 x.code, .int .i64 x.value]
def zIntResult : IntResult := ⟨0, 0⟩
def dIntResult : List T := eIntResult zIntResult
theorem getD_IntResult (xs : List IntResult) (i : Nat) : (xs.map eIntResult).getD i dIntResult = eIntResult (xs.getD i zIntResult) := getD_map_ ..
theorem shrR_IntResult (xs : List IntResult) : T.shrR (xs.map eIntResult) = xs.map eIntResult := T.shrR_map _ _ (fun _ => rfl) xs
theorem noShR_IntResult (xs : List IntResult) : T.noShR (xs.map eIntResult) = True := noShR_map _ (fun _ => by simp [eIntResult, T.noShL, T.noSh]) xs
theorem roRows_IntResult (xs : List IntResult) : roRows (xs.map eIntResult) = xs.map eIntResult := roRows_map _ _ (fun _ => rfl) xs
theorem cpRows_IntResult (d : Dep) (xs : List IntResult) : cpRows d (xs.map eIntResult) = True := cpRows_map _ (fun _ => by simp [eIntResult, T.flat]) d xs
attribute [go_sem] getD_IntResult shrR_IntResult noShR_IntResult roRows_IntResult cpRows_IntResult
theorem dropd_IntResult : List.drop 2 dIntResult = [] := rfl
theorem tm_IntResult : tm dIntResult = [.int .i64 0, .int .i64 0] := rfl
attribute [go_sem] dropd_IntResult tm_IntResult
def eI_u8 (n : Int) : List T := [.int .u8 n]
def zI_u8 : Int := 0
def dI_u8 : List T := eI_u8 zI_u8
theorem getD_I_u8 (xs : List Int) (i : Nat) : (xs.map eI_u8).getD i dI_u8 = eI_u8 (xs.getD i zI_u8) := getD_map_ ..
theorem shrR_I_u8 (xs : List Int) : T.shrR (xs.map eI_u8) = xs.map eI_u8 := T.shrR_map _ _ (fun _ => rfl) xs
theorem noShR_I_u8 (xs : List Int) : T.noShR (xs.map eI_u8) = True := noShR_map _ (fun _ => by simp [eI_u8, T.noShL, T.noSh]) xs
theorem roRows_I_u8 (xs : List Int) : roRows (xs.map eI_u8) = xs.map eI_u8 := roRows_map _ _ (fun _ => rfl) xs
theorem cpRows_I_u8 (d : Dep) (xs : List Int) : cpRows d (xs.map eI_u8) = True := cpRows_map _ (fun _ => by simp [eI_u8, T.flat]) d xs
attribute [go_sem] getD_I_u8 shrR_I_u8 noShR_I_u8 roRows_I_u8 cpRows_I_u8
theorem dropd_I_u8 : List.drop 1 dI_u8 = [] := rfl
theorem tm_I_u8 : tm dI_u8 = [.int .u8 0] := rfl
attribute [go_sem] dropd_I_u8 tm_I_u8
attribute [go_sem] eI_i64 eConfig eBackend eVip eConfigResult eCmd eMachine eSession eMachineResult eEntry eConfigsResult eUpdate eUpdateResult eWatch eWatchResult eIntResult eI_u8
end Go.H
end
section
set_option linter.unusedVariables false
namespace Go.H
open Go
attribute [go_sem] V.scalar TV.noSh T.noSh T.noShL Ob.noSh V.zT liveV liveL verM capM TV.noShs Ob.noShs T.shr T.shrL roCs roC T.isOwn liveD List.take_length List.drop_zero List.take_zero List.map_nil
attribute [go_sem] decide_false Bool.or_false Bool.true_or Bool.or_true Bool.false_or Bool.and_false Int.natCast_add Int.natCast_one Int.cast_ofNat_Int Nat.add_zero
attribute [go_sem] List.length_map Int.toNat_natCast List.length_append List.length_take List.length_drop List.take_take Nat.min_self List.length_cons List.length_nil List.length_set List.length_replicate
theorem take_map' {α β : Type} (f : α → β) (l : List α) (i : Nat) : (l.map f).take i = (l.take i).map f := List.map_take.symm
theorem drop_map' {α β : Type} (f : α → β) (l : List α) (i : Nat) : (l.map f).drop i = (l.drop i).map f := List.map_drop.symm
theorem app_map' {α β : Type} (f : α → β) (l m : List α) : l.map f ++ m.map f = (l ++ m).map f := List.map_append.symm
attribute [go_sem] take_map' drop_map' app_map'
attribute [go_sem] reduceCtorEq Nat.reduceMod Nat.reduceEqDiff Nat.reduceAdd Nat.reduceMul Nat.reduceLeDiff Nat.reduceLT
theorem take_succ_map {α β : Type} (f : α → β) (d : α) {xs : List α} {i : Nat} (h : i < xs.length) : (xs.take (i + 1)).map f = (xs.take i).map f ++ [f (xs.getD i d)] := by
  rw [List.take_add_one, List.map_append, List.getD_eq_getElem?_getD, List.getElem?_eq_getElem h]
  rfl
def inR (a b c : Int) : Bool := decide (b ≤ a) && decide (a ≤ c)
attribute [go_sem] eqVL eqV
attribute [go_sem] T.noShR T.shrL T.shrR roCs roC cVcL Bool.cond_true_left Bool.cond_false_left Bool.cond_true_right Bool.not_eq_true' beq_false obM lkey obOk bne_self_eq_false beq_self_eq_true Bool.not_false ne_eq not_true_eq_false not_false_eq_true eq_self decide_not Bool.not_true
def aS (l : List T) : Arg := .agg (l.map C.t)
def aT (t : T) : Arg := .one (.t t)
def aI (n : Int) : Arg := .one (.t (.int .i64 n))
def rI (n : Int) : TV := .one (.int .i64 n)
def rB (b : Bool) : TV := .one (.bool b)
attribute [go_sem] aS aT aI rI rB okI
theorem drop_getD {α : Type} (d : α) {xs : List α} {i : Nat} (h : i < xs.length) : xs.drop i = xs.getD i d :: xs.drop (i + 1) := by
  rw [List.drop_eq_getElem_cons h, List.getD_eq_getElem?_getD, List.getElem?_eq_getElem h]
  rfl
theorem getD_set_self {α : Type} {l : List α} {i : Nat} (h : i < l.length) (r d : α) : (l.set i r).getD i d = r := by
  rw [List.getD_eq_getElem?_getD, List.getElem?_set_self h]
  rfl
theorem all_getD {α : Type} (d : α) {xs : List α} {p : α → Prop} : (∀ i < xs.length, p (xs.getD i d)) ↔ ∀ x ∈ xs, p x := by
  constructor
  · intro h x hx
    obtain ⟨i, hi, rfl⟩ := List.getElem_of_mem hx
    have := h i hi
    rwa [List.getD_eq_getElem?_getD, List.getElem?_eq_getElem hi] at this
  · intro h i hi
    rw [List.getD_eq_getElem?_getD, List.getElem?_eq_getElem hi]
    exact h _ (List.getElem_mem hi)
theorem getD_bld {α : Type} {l : List α} {n i : Nat} {d : α} (h : l.length = i) : (l ++ List.replicate n d).getD i d = d := by
  rw [List.getD_eq_getElem?_getD, List.getElem?_append_right (by omega)]
  cases h2 : (List.replicate n d)[i - l.length]? with
  | none => rfl
  | some x => exact List.eq_of_mem_replicate (List.mem_of_getElem? h2)
theorem bld_step {α : Type} (f : α → List T) (z : α) (d : List T) {xs : List α} {i : Nat} (h : i < xs.length) : ((xs.take i).map f ++ List.replicate (xs.length - i) d).set i (f (xs.getD i z)) = (xs.take (i + 1)).map f ++ List.replicate (xs.length - (i + 1)) d := by
  rw [take_succ_map f z h]
  have e : xs.length - i = (xs.length - (i + 1)) + 1 := by omega
  have hl : ((xs.take i).map f).length = i := by simp; omega
  rw [e, List.replicate_succ, List.set_append_right _ _ (by omega), hl, Nat.sub_self, List.set_cons_zero, List.append_assoc]
  rfl
attribute [go_sem] Nat.sub_self
def mkL {α : Type} (m : α → Int → α) (s : α → Int → Int) : List α → Int → List α
  | [], _ => []
  | x :: xs, k => m x k :: mkL m s xs (s x k)
def mkK {α : Type} (s : α → Int → Int) : List α → Int → Int
  | [], k => k
  | x :: xs, k => mkK s xs (s x k)
theorem mkL_length {α : Type} (m : α → Int → α) (s : α → Int → Int) : ∀ (xs : List α) (k : Int), (mkL m s xs k).length = xs.length
  | [], _ => rfl
  | x :: xs, k => by simp [mkL, mkL_length m s xs]
theorem mkL_snoc {α : Type} (m : α → Int → α) (s : α → Int → Int) (y : α) : ∀ (xs : List α) (k : Int), mkL m s (xs ++ [y]) k = mkL m s xs k ++ [m y (mkK s xs k)]
  | [], _ => rfl
  | x :: xs, k => by simp [mkL, mkK, mkL_snoc m s y xs]
theorem mkK_snoc {α : Type} (s : α → Int → Int) (y : α) : ∀ (xs : List α) (k : Int), mkK s (xs ++ [y]) k = s y (mkK s xs k)
  | [], _ => rfl
  | x :: xs, k => by simp [mkK, mkK_snoc s y xs]
theorem take_snoc {α : Type} (z : α) {xs : List α} {i : Nat} (h : i < xs.length) : xs.take (i + 1) = xs.take i ++ [xs.getD i z] := by
  rw [List.take_add_one, List.getD_eq_getElem?_getD, List.getElem?_eq_getElem h]
  rfl
theorem mkK_succ {α : Type} (s : α → Int → Int) (z : α) {xs : List α} {i : Nat} (h : i < xs.length) (k : Int) : mkK s (xs.take (i + 1)) k = s (xs.getD i z) (mkK s (xs.take i) k) := by
  rw [take_snoc z h, mkK_snoc]
theorem mk_step {α : Type} (f : α → List T) (m : α → Int → α) (s : α → Int → Int) (z : α) {xs : List α} {i : Nat} (h : i < xs.length) (k : Int) :
    ((mkL m s (xs.take i) k ++ xs.drop i).map f).set i (f (m (xs.getD i z) (mkK s (xs.take i) k))) = (mkL m s (xs.take (i + 1)) k ++ xs.drop (i + 1)).map f := by
  rw [take_snoc z h, mkL_snoc, drop_getD z h]
  have hl : (mkL m s (xs.take i) k).length = i := by rw [mkL_length]; simp; omega
  have e : ∀ y r, ((mkL m s (xs.take i) k ++ y :: r).map f).set i (f (m (xs.getD i z) (mkK s (xs.take i) k))) = (mkL m s (xs.take i) k ++ (m (xs.getD i z) (mkK s (xs.take i) k)) :: r).map f := by
    intro y r
    rw [List.map_append, List.set_append_right _ _ (by rw [List.length_map]; omega), List.length_map, hl, Nat.sub_self, List.map_cons, List.set_cons_zero, List.map_append, List.map_cons]
  rw [e, List.append_assoc]
  rfl
theorem mkL_getD {α : Type} (m : α → Int → α) (s : α → Int → Int) (z : α) : ∀ {xs : List α} {i : Nat} (k : Int), i < xs.length → (mkL m s xs k).getD i z = m (xs.getD i z) (mkK s (xs.take i) k)
  | [], i, k, h => by simp at h
  | x :: xs, 0, k, h => rfl
  | x :: xs, i + 1, k, h => by
    have := mkL_getD m s z (xs := xs) (i := i) (s x k) (by simpa using h)
    simpa only [mkL, List.getD_cons_succ, List.take_succ_cons, mkK] using this
theorem mk_getD {α : Type} (m : α → Int → α) (s : α → Int → Int) (z : α) {xs : List α} {i : Nat} (k : Int) (h : i < xs.length) : (mkL m s (xs.take i) k ++ xs.drop i).getD i z = xs.getD i z := by
  have hl : (mkL m s (xs.take i) k).length = i := by rw [mkL_length]; simp; omega
  rw [List.getD_eq_getElem?_getD, List.getElem?_append_right (by omega), hl, Nat.sub_self, drop_getD z h]
  rfl
theorem mkK_mono {α : Type} {s : α → Int → Int} (hs : ∀ x k, k ≤ s x k) : ∀ (xs : List α) (k : Int), k ≤ mkK s xs k
  | [], k => Int.le_refl k
  | x :: xs, k => Int.le_trans (hs x k) (mkK_mono hs xs _)
theorem mkK_app {α : Type} {s : α → Int → Int} : ∀ (xs ys : List α) (k : Int), mkK s (xs ++ ys) k = mkK s ys (mkK s xs k)
  | [], _, _ => rfl
  | x :: xs, ys, k => by simp [mkK, mkK_app xs ys]
theorem mkK_take {α : Type} {s : α → Int → Int} (hs : ∀ x k, k ≤ s x k) (xs : List α) (i : Nat) (k : Int) : mkK s (xs.take i) k ≤ mkK s xs k := by
  conv => rhs; rw [← List.take_append_drop i xs, mkK_app]
  exact mkK_mono hs _ _
theorem mkK_at {α : Type} {s : α → Int → Int} (hs : ∀ x k, k ≤ s x k) (z : α) {xs : List α} {i : Nat} (h : i < xs.length) {k b : Int} (hb : mkK s xs k ≤ b) : k ≤ mkK s (xs.take i) k ∧ s (xs.getD i z) (mkK s (xs.take i) k) ≤ b := by
  rw [← mkK_succ s z h]
  exact ⟨mkK_mono hs _ _, Int.le_trans (mkK_take hs _ _ _) hb⟩
theorem mkK_bd {α : Type} {s : α → Int → Int} {c : Int} (hc : 0 ≤ c) : ∀ {xs : List α} {k : Int}, (∀ x ∈ xs, ∀ k, s x k ≤ k + c) → mkK s xs k ≤ k + c * xs.length
  | [], k, h => by simp [mkK]
  | x :: xs, k, h => by
    have h1 := h x (by simp) k
    have h2 := mkK_bd hc (xs := xs) (k := s x k) fun y hy => h y (by simp [hy])
    simp only [mkK, List.length_cons]
    rw [show c * ((xs.length + 1 : Nat) : Int) = c * xs.length + c by rw [Int.natCast_add, Int.mul_add]; simp]
    omega
theorem arr_eq {sz v v' : Nat} {c : Option Nat} {r r' : List (List T)} (h1 : r = r') (h2 : v = v') : some (Mem.arr ⟨sz, r, v, c⟩) = some (Mem.arr ⟨sz, r', v', c⟩) := by rw [h1, h2]
theorem int_eq {k : IntKind} {a b : Int} (h : a = b) : some (V.int k a) = some (V.int k b) := by rw [h]
theorem getD_mem {α : Type} (z : α) {xs : List α} {i : Nat} (h : i < xs.length) : xs.getD i z ∈ xs := by
  rw [List.getD_eq_getElem?_getD, List.getElem?_eq_getElem h]
  exact List.getElem_mem h
theorem toNat_sub1 (n : Nat) : ((n : Int) - 1).toNat = n - 1 := by omega
theorem toNat_add1 (n : Nat) : ((n : Int) + 1).toNat = n + 1 := by omega
attribute [go_sem] toNat_sub1 toNat_add1 Int.add_sub_cancel
theorem take_snoc_map {α : Type} (f : α → List T) (xs : List α) (r : List T) : List.take (xs.length + 1) (xs.map f ++ [r]) = xs.map f ++ [r] := List.take_of_length_le (by simp)
theorem take_app_map {α : Type} (f : α → List T) (xs ys : List α) : List.take (xs.length + ys.length) ((xs ++ ys).map f) = (xs ++ ys).map f := List.take_of_length_le (by simp)
theorem take_set_map {α : Type} (f : α → List T) (xs : List α) (n : Nat) (r : List T) : List.take xs.length ((xs.map f).set n r) = (xs.map f).set n r := List.take_of_length_le (by simp)
theorem noShR_set : ∀ {l : List (List T)} {n : Nat} {r : List T}, T.noShR l → T.noShL r → T.noShR (l.set n r)
  | [], _, _, _, _ => by simp [T.noShR]
  | a :: l, 0, r, h, hr => by simp only [List.set_cons_zero, T.noShR] at h ⊢; exact ⟨hr, h.2⟩
  | a :: l, n + 1, r, h, hr => by simp only [List.set_cons_succ, T.noShR] at h ⊢; exact ⟨h.1, noShR_set h.2 hr⟩
theorem noShR_append : ∀ (l l2 : List (List T)), T.noShR (l ++ l2) = (T.noShR l ∧ T.noShR l2)
  | [], l2 => by simp [T.noShR]
  | a :: l, l2 => by simp only [List.cons_append, T.noShR, noShR_append l l2, and_assoc]
theorem getD_set_app {α : Type} {l : List α} {i : Nat} (h : i < l.length) (r : α) (l2 : List α) (d : α) : (l.set i r ++ l2).getD i d = r := by
  rw [List.getD_eq_getElem?_getD, List.getElem?_append_left (by simpa using h), List.getElem?_set_self h]
  rfl
theorem set_app {α : Type} {l : List α} {i : Nat} (h : i < l.length) (r r2 : α) (l2 : List α) : (l.set i r ++ l2).set i r2 = l.set i r2 ++ l2 := by
  rw [List.set_append_left _ _ (by simpa using h), List.set_set]
theorem set_getD_map {α : Type} (f : α → List T) (z : α) {xs : List α} {i : Nat} (h : i < xs.length) : (xs.map f).set i (f (xs.getD i z)) = xs.map f := by
  rw [List.getD_eq_getElem?_getD, List.getElem?_eq_getElem h]
  apply List.ext_getElem
  · simp
  · intro j h1 h2
    rw [List.getElem_set]
    split
    · rename_i e; subst e; simp
    · rfl
attribute [go_sem] take_snoc_map take_app_map take_set_map noShR_append
attribute [go_sem] T.own T.ownL
theorem take_set_len {α : Type} (l : List α) (n : Nat) (v : α) : List.take l.length (l.set n v) = l.set n v := List.take_of_length_le (by simp)
attribute [go_sem] take_set_len
theorem take_drop_take {α : Type} (l : List α) (a k : Nat) : List.take (a - k) (List.drop k (List.take a l)) = List.drop k (List.take a l) := List.take_of_length_le (by simp; omega)
attribute [go_sem] mnxI take_drop_take isZ bnd
theorem toNat0 : Int.toNat 0 = 0 := rfl
theorem toNat_subN (a b : Nat) : ((a : Int) - (b : Int)).toNat = a - b := by omega
theorem toNat_addN (a b : Nat) : ((a : Int) + (b : Int)).toNat = a + b := by omega
theorem toNat_subNN (a b c : Nat) : ((a : Int) - ((b : Int) + (c : Int))).toNat = a - (b + c) := by omega
theorem toNat_addNN (a b c : Nat) : ((a : Int) + (b : Int) + (c : Int)).toNat = a + b + c := by omega
attribute [go_sem] toNat0 toNat_subN toNat_addN toNat_subNN toNat_addNN Int.sub_zero Int.add_zero Int.zero_add
theorem junk_drop {α : Type} (J : List T) (f : α → List T) (xs : List α) (n : Nat) : List.drop (n + 1) (List.replicate n J ++ List.map f (List.drop n xs)) = List.map f (List.drop (n + 1) xs) := by
  rw [List.drop_append, List.drop_of_length_le (by simp), List.nil_append, List.length_replicate, ← List.map_drop, List.drop_drop]
  congr 2
  omega
theorem take_drop_len {α : Type} (xs : List α) (k : Nat) : List.take (xs.length - k) (List.drop k xs) = List.drop k xs := List.take_of_length_le (by simp)
attribute [go_sem] junk_drop take_drop_len
theorem toNat_sub1N (a b : Nat) : ((a : Int) - ((b : Int) + 1)).toNat = a - (b + 1) := by omega
attribute [go_sem] toNat_sub1N false_and and_false Int.one_mul
theorem wrap_small {n : Int} (h1 : -9223372036854775808 ≤ n) (h2 : n ≤ 9223372036854775807) : IntKind.wrap .i64 n = n := okI_wrap (k := .i64) ⟨h1, h2⟩
def idxG {α : Type} (q : α → Bool) : List α → Int
  | [] => -1
  | x :: xs => if q x = true then 0 else if idxG q xs < 0 then -1 else idxG q xs + 1
theorem idxG_none {α : Type} (z : α) {q : α → Bool} : ∀ {xs : List α}, (∀ j, j < xs.length → q (xs.getD j z) = false) → idxG q xs = -1
  | [], _ => rfl
  | x :: xs, h => by
    have h0 := h 0 (by simp)
    simp only [List.getD_cons_zero] at h0
    have ih := idxG_none z (q := q) (xs := xs) (fun j hj => by have := h (j + 1) (by simpa using hj); simpa only [List.getD_cons_succ] using this)
    rw [idxG, if_neg (by rw [h0]; simp), ih, if_pos (by omega)]
theorem idxG_some {α : Type} (z : α) {q : α → Bool} : ∀ {xs : List α} {i : Nat}, i < xs.length → (∀ j, j < i → q (xs.getD j z) = false) → q (xs.getD i z) = true → idxG q xs = i
  | [], _, h, _, _ => by simp at h
  | x :: xs, 0, _, _, hq => by
    simp only [List.getD_cons_zero] at hq
    rw [idxG, if_pos hq]
    rfl
  | x :: xs, i + 1, hi, h, hq => by
    have h0 := h 0 (by omega)
    simp only [List.getD_cons_zero] at h0
    have ih := idxG_some z (q := q) (xs := xs) (i := i) (by simpa using hi) (fun j hj => by have := h (j + 1) (by omega); simpa only [List.getD_cons_succ] using this) (by simpa only [List.getD_cons_succ] using hq)
    rw [idxG, if_neg (by rw [h0]; simp), ih, if_neg (by omega)]
    omega
theorem idxG_cases {α : Type} (z : α) (q : α → Bool) : ∀ (xs : List α), (idxG q xs = -1 ∧ ∀ j, j < xs.length → q (xs.getD j z) = false) ∨ ∃ i : Nat, idxG q xs = i ∧ i < xs.length ∧ q (xs.getD i z) = true ∧ ∀ j, j < i → q (xs.getD j z) = false
  | [] => .inl ⟨rfl, fun j h => by simp at h⟩
  | x :: xs => by
    cases hx : q x with
    | true => exact .inr ⟨0, by rw [idxG, if_pos hx]; rfl, by simp, by simpa using hx, fun j h => by omega⟩
    | false =>
      rcases idxG_cases z q xs with ⟨h1, h2⟩ | ⟨i, h1, h2, h3, h4⟩
      · refine .inl ⟨by rw [idxG, if_neg (by rw [hx]; simp), if_pos (by omega)], fun j hj => ?_⟩
        cases j with
        | zero => simpa using hx
        | succ j => simpa using h2 j (by simpa using hj)
      · refine .inr ⟨i + 1, by rw [idxG, if_neg (by rw [hx]; simp), if_neg (by omega)]; omega, by simpa using h2, by simpa using h3, fun j hj => ?_⟩
        cases j with
        | zero => simpa using hx
        | succ j => simpa using h4 j (by omega)
theorem idxG_lt {α : Type} (z : α) {q : α → Bool} {xs : List α} (h : ¬ idxG q xs < 0) : ∃ i : Nat, idxG q xs = i ∧ i < xs.length ∧ q (xs.getD i z) = true ∧ ∀ j, j < i → q (xs.getD j z) = false := by
  rcases idxG_cases z q xs with ⟨h1, _⟩ | h1
  · omega
  · exact h1
theorem idxG_neg {α : Type} (z : α) {q : α → Bool} {xs : List α} (h : idxG q xs < 0) : idxG q xs = -1 ∧ ∀ j, j < xs.length → q (xs.getD j z) = false := by
  rcases idxG_cases z q xs with h1 | ⟨i, h1, _⟩
  · exact h1
  · omega
theorem idxG_ge {α : Type} (q : α → Bool) : ∀ (xs : List α), -1 ≤ idxG q xs
  | [] => by simp [idxG]
  | x :: xs => by
    have := idxG_ge q xs
    rw [idxG]
    split
    · omega
    · split <;> omega
def hasG {α : Type} (q : α → Bool) (xs : List α) : Bool := decide (0 ≤ idxG q xs)
theorem hasG_false {α : Type} (z : α) {q : α → Bool} {xs : List α} (h : ∀ j, j < xs.length → q (xs.getD j z) = false) : hasG q xs = false := by
  simp [hasG, idxG_none z h]
theorem hasG_true {α : Type} (z : α) {q : α → Bool} {xs : List α} {i : Nat} (hi : i < xs.length) (h : q (xs.getD i z) = true) : hasG q xs = true := by
  rcases idxG_cases z q xs with ⟨_, h2⟩ | ⟨j, h1, _⟩
  · rw [h2 i hi] at h; cases h
  · simp [hasG, h1]
def preG {α : Type} (p : α → Bool) (xs : List α) : Nat := (xs.takeWhile p).length
theorem preG_le {α : Type} (p : α → Bool) (xs : List α) : preG p xs ≤ xs.length := (List.takeWhile_sublist _).length_le
theorem preG_eq {α : Type} (z : α) {p : α → Bool} : ∀ {xs : List α} {i : Nat}, i ≤ xs.length → (∀ q, q < i → p (xs.getD q z) = true) → (i < xs.length → p (xs.getD i z) = false) → preG p xs = i
  | [], i, h, _, _ => by simp at h; subst h; rfl
  | x :: xs, 0, h, _, h2 => by
    have := h2 (by simp)
    simp only [List.getD_cons_zero] at this
    unfold preG
    rw [List.takeWhile_cons_of_neg (by rw [this]; simp)]
    rfl
  | x :: xs, i + 1, h, h1, h2 => by
    have h0 := h1 0 (by omega)
    simp only [List.getD_cons_zero] at h0
    have ih := preG_eq z (p := p) (xs := xs) (i := i) (by simpa using h) (fun q hq => by simpa only [List.getD_cons_succ] using h1 (q + 1) (by omega)) (fun hi => by simpa only [List.getD_cons_succ] using h2 (by simpa using hi))
    unfold preG at ih ⊢
    rw [List.takeWhile_cons_of_pos h0, List.length_cons, ih]
theorem preG_lt {α : Type} (z : α) {p : α → Bool} : ∀ {xs : List α} {i : Nat}, i < preG p xs → p (xs.getD i z) = true
  | [], i, h => by simp [preG] at h
  | x :: xs, i, h => by
    unfold preG at h
    cases hx : p x with
    | false => rw [List.takeWhile_cons_of_neg (by rw [hx]; simp)] at h; simp at h
    | true =>
      rw [List.takeWhile_cons_of_pos hx] at h
      cases i with
      | zero => simpa using hx
      | succ i => simpa using preG_lt z (p := p) (xs := xs) (i := i) (by simpa [preG] using h)
theorem preG_at {α : Type} (z : α) {p : α → Bool} : ∀ {xs : List α}, preG p xs < xs.length → p (xs.getD (preG p xs) z) = false
  | [], h => by simp at h
  | x :: xs, h => by
    unfold preG at h ⊢
    cases hx : p x with
    | false => rw [List.takeWhile_cons_of_neg (by rw [hx]; simp)]; simpa using hx
    | true =>
      rw [List.takeWhile_cons_of_pos hx] at h ⊢
      simp only [List.length_cons, List.getD_cons_succ]
      exact preG_at z (p := p) (xs := xs) (by simpa [preG] using h)
def putG {α : Type} (p : α → Bool) (xs : List α) (b : α) : List α := xs.take (preG p xs) ++ [b] ++ xs.drop (preG p xs)
def cutG {α : Type} (xs : List α) (i : Nat) : List α := xs.take i ++ xs.drop (i + 1)
def lbn (xs : List Int) (v : Int) : Nat := (xs.takeWhile fun x => decide (x < v)).length
def rises (xs : List Int) : Prop := ∀ i, 0 < i → i < xs.length → xs.getD (i - 1) zI_i64 < xs.getD i zI_i64
def isNum (x : Cmd) : Bool := if x.kind = 1 ∨ x.kind = 2 then inR x.number 0 9 else if x.kind = 3 then inR x.number 1 3 else if x.kind = 9 then inR x.number 0 1 else inR x.number 0 65535
def isPro (n : Int) : Bool := decide (n = 6) || decide (n = 17)
def nd1 (k : Int) : Bool := !inR k 5 6
def nd2 (k : Int) : Bool := decide (k = 1) || inR k 5 8
def nd3 (k : Int) : Bool := !decide (k = 4)
def nd4 (k : Int) : Bool := inR k 5 8
def cmdFault (x : Cmd) : Int :=
  if !inR x.kind 1 9 then 1 else
  if !inR x.expect (-1) 1000000 || (nd1 x.kind && !inR x.name 1 999) || (nd2 x.kind && !inR x.addr 0 4294967295) || (nd3 x.kind && !isNum x) || (nd4 x.kind && !isPro x.proto) then 3 else
  if (!nd1 x.kind && decide (x.name ≠ 0)) || (!nd2 x.kind && decide (x.addr ≠ 0)) || (!nd3 x.kind && decide (x.number ≠ 0)) || (!nd4 x.kind && decide (x.proto ≠ 0)) then 1 else 0
theorem exp_eq (n : Int) : (!decide (n = -1) && !inR n 0 1000000) = !inR n (-1) 1000000 := by
  rw [Bool.eq_iff_iff]
  simp [inR]
  omega
def scanN (f : Nat → Int) : Nat → Nat → Int
  | 0, _ => 0
  | n + 1, i => if f i = 0 then scanN f n (i + 1) else f i
def scan (f : Nat → Int) (n i : Nat) : Int := scanN f (n - i) i
theorem scan_lt {f : Nat → Int} {n i : Nat} (h : i < n) : scan f n i = if f i = 0 then scan f n (i + 1) else f i := by
  unfold scan
  rw [show n - i = (n - (i + 1)) + 1 by omega]
  rfl
theorem scan_ge {f : Nat → Int} {n i : Nat} (h : n ≤ i) : scan f n i = 0 := by
  unfold scan
  rw [show n - i = 0 by omega]
  rfl
theorem scanN_zero {f : Nat → Int} : ∀ {n i : Nat}, scanN f n i = 0 ↔ ∀ j, j < n → f (i + j) = 0
  | 0, i => by simp [scanN]
  | n + 1, i => by
    simp only [scanN]
    constructor
    · intro h j hj
      split at h
      · rename_i h0
        rcases j with _ | j
        · exact h0
        · have := scanN_zero.1 h j (by omega)
          rw [show i + (j + 1) = i + 1 + j by omega]
          exact this
      · rename_i h0; exact absurd h h0
    · intro h
      have h0 := h 0 (by omega)
      rw [Nat.add_zero] at h0
      rw [if_pos h0]
      refine scanN_zero.2 fun j hj => ?_
      rw [show i + 1 + j = i + (j + 1) by omega]
      exact h (j + 1) (by omega)
theorem scan_zero {f : Nat → Int} {n i : Nat} : scan f n i = 0 ↔ ∀ j, i ≤ j → j < n → f j = 0 := by
  unfold scan
  rw [scanN_zero]
  constructor
  · intro h j h1 h2
    have := h (j - i) (by omega)
    rwa [show i + (j - i) = j by omega] at this
  · intro h j hj
    exact h (i + j) (by omega) (by omega)
def isBk (b : Backend) : Bool := inR b.name 1 999 && inR b.address 0 4294967295 && inR b.weight 0 9 && inR b.stage 1 3
def isVp (v : Vip) : Bool := inR v.address 0 4294967295 && inR v.port 0 65535 && isPro v.proto
def isB (n : Int) (b : Backend) : Bool := decide (b.name = n)
def findB (xs : List Backend) (n : Int) : Int := idxG (isB n) xs
def behV (a b : Vip) : Bool := if a.address ≠ b.address then decide (a.address < b.address) else if a.port ≠ b.port then decide (a.port < b.port) else decide (a.proto < b.proto)
def cmpI (a b : Int) : Int := if a < b then -1 else if b < a then 1 else 0
def cmpV (a b : Vip) : Int := if cmpI a.address b.address ≠ 0 then cmpI a.address b.address else if cmpI a.port b.port ≠ 0 then cmpI a.port b.port else cmpI a.proto b.proto
def cmpB (a b : Backend) : Int := cmpI a.name b.name
theorem cmpV_lt (a b : Vip) : decide (cmpV a b < 0) = behV a b := by
  unfold cmpV behV cmpI
  rw [Bool.eq_iff_iff]
  grind
theorem cmpV_ge (a b : Vip) : decide (0 ≤ cmpV a b) = !behV a b := by
  rw [← cmpV_lt, Bool.eq_iff_iff]
  simp
theorem cmpB_lt (a b : Backend) : cmpB a b < 0 ↔ a.name < b.name := by
  unfold cmpB cmpI
  grind
def bkBad (xs : List Backend) (i : Nat) : Int :=
  if isBk (xs.getD i zBackend) = false then 3 else if 0 < i ∧ (xs.getD i zBackend).name ≤ (xs.getD (i - 1) zBackend).name then 1 else 0
def noB (bs : List Backend) (n : Int) : Bool := decide (findB bs n < 0)
def nmBad (v : Vip) (i : Nat) : Int := if v.names.getD i zI_i64 ≤ v.names.getD (i - 1) zI_i64 then 1 else 0
def vipBad (c : Config) (i : Nat) : Int :=
  if isVp (c.vips.getD i zVip) = false then 3 else
  if 0 < i ∧ behV (c.vips.getD (i - 1) zVip) (c.vips.getD i zVip) = false then 1 else
  if hasG (noB c.backends) (c.vips.getD i zVip).names = true then 4 else scan (nmBad (c.vips.getD i zVip)) (c.vips.getD i zVip).names.length 1
def configFault (c : Config) : Int :=
  if inR c.version 0 1000000 = false then 3 else
  if 8 < c.backends.length ∨ 4 < c.vips.length then 2 else
  if scan (bkBad c.backends) c.backends.length 0 ≠ 0 then scan (bkBad c.backends) c.backends.length 0 else scan (vipBad c) c.vips.length 0
def isV (a p q : Int) (v : Vip) : Bool := decide (v.address = a) && decide (v.port = p) && decide (v.proto = q)
def findV (xs : List Vip) (a p q : Int) : Int := idxG (isV a p q) xs
theorem lbn_le (xs : List Int) (v : Int) : lbn xs v ≤ xs.length := List.takeWhile_sublist _ |>.length_le
theorem lbn_pre (xs : List Int) (v : Int) : lbn xs v = preG (fun x => decide (x < v)) xs := rfl
theorem lbn_eq {xs : List Int} {v : Int} {i : Nat} (h : i ≤ xs.length) (h1 : ∀ p, p < i → xs.getD p zI_i64 < v) (h2 : i < xs.length → v ≤ xs.getD i zI_i64) : lbn xs v = i :=
  preG_eq zI_i64 h (fun q hq => by simpa using h1 q hq) (fun hi => by have := h2 hi; simp only [decide_eq_false_iff_not]; omega)
def hasI (xs : List Int) (v : Int) : Bool := decide (lbn xs v < xs.length) && decide (xs.getD (lbn xs v) zI_i64 = v)
theorem rises_lt {xs : List Int} (h : rises xs) {i : Nat} : ∀ {j : Nat}, i < j → j < xs.length → xs.getD i zI_i64 < xs.getD j zI_i64
  | 0, h1, _ => by omega
  | j + 1, h1, h2 => by
    have e := h (j + 1) (by omega) h2
    simp only [Nat.add_sub_cancel] at e
    by_cases hij : i = j
    · subst hij; exact e
    · have := rises_lt h (i := i) (j := j) (by omega) (by omega)
      omega
def riseL (xs : List Int) (v : Int) : List Int := if hasI xs v then xs else xs.take (lbn xs v) ++ [v] ++ xs.drop (lbn xs v)
theorem half_nat (a b : Nat) (h : a + b < 9223372036854775808) : ((a : Int) + b).fdiv (2 ^ min (Int.toNat 1) 64) = (((a + b) / 2 : Nat) : Int) := by
  show ((a : Int) + b).fdiv (2 ^ 1) = _
  rw [← Int.natCast_add]
  rw [Int.fdiv_eq_ediv_of_nonneg _ (by omega)]
  omega
theorem wrap_u (n : Nat) (h : n < 18446744073709551616) : IntKind.u64.wrap (n : Int) = n := by
  show ((n : Int) % 18446744073709551616) = n
  omega
def eqI (v : Int) (x : Int) : Bool := decide (x = v)
theorem hasI_eq {xs : List Int} (hr : rises xs) (v : Int) : hasG (eqI v) xs = hasI xs v := by
  cases h : hasI xs v with
  | true =>
    simp only [hasI, Bool.and_eq_true, decide_eq_true_eq] at h
    exact hasG_true zI_i64 h.1 (by simpa [eqI] using h.2)
  | false =>
    refine hasG_false zI_i64 fun j hj => ?_
    simp only [eqI, decide_eq_false_iff_not]
    intro e
    have hl : lbn xs v = j := lbn_eq (by omega) (fun p hp => by have := rises_lt hr hp hj; omega) (fun _ => by omega)
    simp only [hasI, hl, hj, e, decide_true, Bool.and_self] at h
    cases h
def notI (v : Int) (x : Int) : Bool := !decide (x = v)
theorem filter_lt {xs : List Int} {v : Int} (h : ∀ x ∈ xs, x ≠ v) : xs.filter (notI v) = xs := by
  rw [List.filter_eq_self]
  intro x hx
  simpa [notI] using h x hx
theorem without_eq {xs : List Int} (hr : rises xs) {v : Int} (h : hasI xs v = true) : xs.filter (notI v) = cutG xs (lbn xs v) := by
  simp only [hasI, Bool.and_eq_true, decide_eq_true_eq] at h
  obtain ⟨h1, h2⟩ := h
  have e : xs = xs.take (lbn xs v) ++ v :: xs.drop (lbn xs v + 1) := by
    have := drop_getD zI_i64 h1
    rw [h2] at this
    rw [← this, List.take_append_drop]
  have k : ∀ j, j < xs.length → j ≠ lbn xs v → xs.getD j zI_i64 ≠ v := fun j hj hn he => by
    rcases Nat.lt_or_gt_of_ne hn with h3 | h3
    · have := rises_lt hr h3 h1; omega
    · have := rises_lt hr h3 hj; omega
  unfold cutG
  conv => lhs; rw [e]
  rw [List.filter_append, List.filter_cons]
  rw [filter_lt, filter_lt]
  · simp [notI]
  · intro x hx
    obtain ⟨j, hj, rfl⟩ := List.getElem_of_mem hx
    have hj2 : lbn xs v + 1 + j < xs.length := by simp at hj; omega
    have := k (lbn xs v + 1 + j) hj2 (by omega)
    rwa [List.getD_eq_getElem?_getD, List.getElem?_eq_getElem hj2, Option.getD_some, ← List.getElem_drop (h := hj)] at this
  · intro x hx
    obtain ⟨j, hj, rfl⟩ := List.getElem_of_mem hx
    have hj2 : j < lbn xs v := by simp at hj; omega
    have := k j (by omega) (by omega)
    rwa [List.getD_eq_getElem?_getD, List.getElem?_eq_getElem (by omega), Option.getD_some, ← List.getElem_take (h := hj)] at this
def bOf (x : Cmd) : Backend := ⟨x.name, x.addr, x.number, 1, true⟩
def vOf (x : Cmd) : Vip := ⟨x.addr, x.number, x.proto, []⟩
def ltB (n : Int) (b : Backend) : Bool := decide (b.name < n)
def ltV (v a : Vip) : Bool := behV a v
def serves (vs : List Vip) (n : Int) : Bool := hasG (fun v => hasG (eqI n) v.names) vs
def bAt (c : Config) (n : Int) : Nat := (findB c.backends n).toNat
def vAt (c : Config) (x : Cmd) : Nat := (findV c.vips x.addr x.number x.proto).toNat
def setB (c : Config) (i : Nat) (b : Backend) : Config := { c with backends := c.backends.set i b }
def setV (c : Config) (i : Nat) (v : Vip) : Config := { c with vips := c.vips.set i v }
def turnB (c : Config) (x : Cmd) : Int × Config :=
  if x.kind = 1 then
    if 0 ≤ findB c.backends x.name then (7, c) else
    if 8 ≤ c.backends.length then (2, c) else (0, { c with backends := putG (ltB x.name) c.backends (bOf x) })
  else if findB c.backends x.name < 0 then (4, c)
  else if x.kind = 2 then (0, setB c (bAt c x.name) { c.backends.getD (bAt c x.name) zBackend with weight := x.number })
  else if x.kind = 3 then (0, setB c (bAt c x.name) { c.backends.getD (bAt c x.name) zBackend with stage := x.number })
  else if x.kind = 9 then (0, setB c (bAt c x.name) { c.backends.getD (bAt c x.name) zBackend with up := decide (x.number = 1) })
  else if (c.backends.getD (bAt c x.name) zBackend).stage ≠ 3 then (10, c)
  else if serves c.vips x.name = true then (8, c)
  else (0, { c with backends := cutG c.backends (bAt c x.name) })
def turnV (c : Config) (x : Cmd) : Int × Config :=
  if x.kind = 5 then
    if 0 ≤ findV c.vips x.addr x.number x.proto then (7, c) else
    if 4 ≤ c.vips.length then (2, c) else (0, { c with vips := putG (ltV (vOf x)) c.vips (vOf x) })
  else if findV c.vips x.addr x.number x.proto < 0 then (4, c)
  else if x.kind = 6 then (0, { c with vips := cutG c.vips (vAt c x) })
  else if x.kind = 7 then
    if findB c.backends x.name < 0 then (4, c) else
    if hasI (c.vips.getD (vAt c x) zVip).names x.name = true then (7, c) else
    (0, setV c (vAt c x) { c.vips.getD (vAt c x) zVip with names := riseL (c.vips.getD (vAt c x) zVip).names x.name })
  else if hasI (c.vips.getD (vAt c x) zVip).names x.name = false then (4, c) else
    (0, setV c (vAt c x) { c.vips.getD (vAt c x) zVip with names := cutG (c.vips.getD (vAt c x) zVip).names (lbn (c.vips.getD (vAt c x) zVip).names x.name) })
def turned (c : Config) (x : Cmd) : Int × Config := if inR x.kind 5 8 = true then turnV c x else turnB c x
def badC (k : Int) : ConfigResult := ⟨k, zConfig⟩
def applyR (c : Config) (x : Cmd) : ConfigResult :=
  if c.version = 1000000 then badC 3 else
  if x.expect ≠ -1 ∧ x.expect ≠ c.version then badC 9 else
  if (turned c x).1 ≠ 0 then badC (turned c x).1 else ⟨0, { (turned c x).2 with version := c.version + 1 }⟩
def applyCmd (c : Config) (x : Cmd) : ConfigResult :=
  if configFault c ≠ 0 then badC (configFault c) else
  if cmdFault x ≠ 0 then badC (cmdFault x) else applyR c x
def szL (n : Nat) (l : Int) : Int := if l - n < 0 then -1 else l - n
def szT (l : Int) (k : Int → Int) : Int := if l < 0 then -1 else k l
def szVip (x : Vip) (l : Int) : Int := szT (szL x.names.length l) fun l => l
def szVips : List Vip → Int → Int
  | [], l => l
  | x :: xs, l => szT (szVip x l) (szVips xs)
def szVs (xs : List Vip) (l : Int) : Int := szT (szL xs.length l) (szVips xs)
def szConfig (x : Config) (l : Int) : Int := szT (szL x.backends.length l) fun l => szT (szVs x.vips l) fun l => l
theorem szL_lo (n : Nat) (l : Int) : -1 ≤ szL n l := by unfold szL; split <;> omega
theorem szL_hi {n : Nat} {l b : Int} (h : l ≤ b) (hb : -1 ≤ b) : szL n l ≤ b := by unfold szL; split <;> omega
theorem szL_ge {n : Nat} {l : Int} (h : 0 ≤ szL n l) : szL n l = l - n ∧ n ≤ l := by
  unfold szL at *
  split at h
  · omega
  · rename_i h2
    rw [if_neg h2]
    omega
theorem szT_lo {l : Int} {k : Int → Int} (h : 0 ≤ l → -1 ≤ k l) : -1 ≤ szT l k := by unfold szT; split <;> first | omega | exact h (by omega)
theorem szT_hi {l b : Int} {k : Int → Int} (hb : -1 ≤ b) (h : k l ≤ b) : szT l k ≤ b := by unfold szT; split <;> first | omega | exact h
theorem szT_ge {l : Int} {k : Int → Int} (h : 0 ≤ szT l k) : 0 ≤ l ∧ 0 ≤ k l ∧ szT l k = k l := by
  unfold szT at *
  split at h
  · omega
  · rename_i h2
    rw [if_neg h2]
    omega
theorem szVip_lo (x : Vip) (l : Int) (h : l ≤ 1048576) : -1 ≤ szVip x l ∧ szVip x l ≤ 1048576 :=
  ⟨szT_lo fun _ => szL_lo .., szT_hi (by omega) (szL_hi h (by omega))⟩
theorem szVips_lo : ∀ (xs : List Vip) (l : Int), -1 ≤ l → l ≤ 1048576 → -1 ≤ szVips xs l ∧ szVips xs l ≤ 1048576
  | [], l, h1, h2 => ⟨h1, h2⟩
  | x :: xs, l, h1, h2 => by
    have := szVip_lo x l h2
    have h3 := szVips_lo xs (szVip x l) this.1 this.2
    exact ⟨szT_lo fun _ => h3.1, szT_hi (by omega) h3.2⟩
theorem szVs_lo (xs : List Vip) (l : Int) (h : l ≤ 1048576) : -1 ≤ szVs xs l ∧ szVs xs l ≤ 1048576 := by
  have := szVips_lo xs _ (szL_lo xs.length l) (szL_hi h (by omega))
  exact ⟨szT_lo fun _ => this.1, szT_hi (by omega) this.2⟩
theorem szConfig_lo (x : Config) (l : Int) (h : l ≤ 1048576) : -1 ≤ szConfig x l ∧ szConfig x l ≤ 1048576 := by
  have := szVs_lo x.vips _ (szL_hi (n := x.backends.length) h (by omega))
  exact ⟨szT_lo fun _ => szT_lo fun _ => this.1, szT_hi (by omega) (szT_hi (by omega) this.2)⟩
def limV (b : Nat) (x : Vip) : Prop := x.names.length ≤ b
def limG (b : Nat) (x : Config) : Prop := x.backends.length ≤ b ∧ x.vips.length ≤ b ∧ ∀ y ∈ x.vips, limV b y
theorem szVip_lim {x : Vip} {l : Int} (h : 0 ≤ szVip x l) (hl : l ≤ 1048576) : limV 1048576 x ∧ szVip x l ≤ 1048576 := by
  unfold szVip at h
  obtain ⟨a1, a2, _⟩ := szT_ge h
  have e1 := szL_ge a1
  exact ⟨by unfold limV; omega, (szVip_lo x l hl).2⟩
theorem szVips_lim : ∀ {xs : List Vip} {l : Int}, 0 ≤ szVips xs l → l ≤ 1048576 → ∀ y ∈ xs, limV 1048576 y
  | [], _, _, _ => by simp
  | x :: xs, l, h, hl => by
    obtain ⟨a1, a2, _⟩ := szT_ge h
    obtain ⟨b1, b2⟩ := szVip_lim a1 hl
    intro y hy
    rcases List.mem_cons.1 hy with rfl | hy
    · exact b1
    · exact szVips_lim a2 b2 y hy
theorem szConfig_lim {x : Config} {l : Int} (h : 0 ≤ szConfig x l) (hl : l ≤ 1048576) : limG 1048576 x := by
  unfold szConfig at h
  obtain ⟨a1, a2, _⟩ := szT_ge h
  obtain ⟨b1, b2, _⟩ := szT_ge a2
  have e1 := szL_ge a1
  obtain ⟨f1, f2, _⟩ := szT_ge b1
  have q1 := szL_ge f1
  exact ⟨by omega, by omega, szVips_lim f2 (szL_hi (szL_hi hl (by omega)) (by omega))⟩
theorem limV_mono {a b : Nat} (h : a ≤ b) {x : Vip} (hx : limV a x) : limV b x := Nat.le_trans hx h
theorem limG_mono {a b : Nat} (h : a ≤ b) {x : Config} (hx : limG a x) : limG b x := ⟨Nat.le_trans hx.1 h, Nat.le_trans hx.2.1 h, fun y hy => limV_mono h (hx.2.2 y hy)⟩
def mI (_ : Int) (k : Int) : Int := k
def sI (_ : Int) (k : Int) : Int := k + 1
def mB (_ : Backend) (k : Int) : Backend := ⟨k, k + 1, k + 1 + 1, k + 1 + 1 + 1, decide ((k + 1 + 1 + 1 + 1).tmod 3 = 0)⟩
def sB (_ : Backend) (k : Int) : Int := k + 1 + 1 + 1 + 1 + 1
def mV (x : Vip) (k : Int) : Vip := ⟨k, k + 1, k + 1 + 1, mkL mI sI x.names (k + 1 + 1 + 1)⟩
def sV (x : Vip) (k : Int) : Int := mkK sI x.names (k + 1 + 1 + 1)
def mG (x : Config) (k : Int) : Config := ⟨x.version, mkL mB sB x.backends k, mkL mV sV x.vips (mkK sB x.backends k)⟩
def sG (x : Config) (k : Int) : Int := mkK sV x.vips (mkK sB x.backends k)
theorem sI_up (x : Int) (k : Int) : k ≤ sI x k := by unfold sI; omega
theorem sB_up (x : Backend) (k : Int) : k ≤ sB x k := by unfold sB; omega
theorem sV_up (x : Vip) (k : Int) : k ≤ sV x k := by
  have := mkK_mono sI_up x.names (k + 1 + 1 + 1)
  unfold sV; omega
theorem sG_up (x : Config) (k : Int) : k ≤ sG x k := by
  have h1 := mkK_mono sB_up x.backends k
  have h2 := mkK_mono sV_up x.vips (mkK sB x.backends k)
  unfold sG; omega
theorem mkI_bd (xs : List Int) (k : Int) : mkK sI xs k ≤ k + 1 * xs.length := mkK_bd (by omega) fun x _ k => by unfold sI; omega
theorem mkB_bd (xs : List Backend) (k : Int) : mkK sB xs k ≤ k + 5 * xs.length := mkK_bd (by omega) fun x _ k => by unfold sB; omega
theorem mkV_bd {xs : List Vip} {b : Nat} (h : ∀ x ∈ xs, limV b x) (k : Int) : mkK sV xs k ≤ k + (b + 3) * xs.length := mkK_bd (by omega) fun x hx k => by
  have h1 := mkI_bd x.names (k + 1 + 1 + 1)
  have h2 := h x hx
  unfold limV at h2
  unfold sV; omega
theorem sG_bd {x : Config} (hx : limG 2097152 x) {k : Int} (hk : k ≤ 4000000000000000000) : sG x k ≤ k + 4398100000000 := by
  have h1 := mkB_bd x.backends k
  have h2 := mkV_bd hx.2.2 (mkK sB x.backends k)
  have h3 := hx.1
  have h4 := hx.2.1
  unfold sG
  have h5 : (((2097152 : Nat) : Int) + 3) * x.vips.length ≤ (((2097152 : Nat) : Int) + 3) * 2097152 := Int.mul_le_mul_of_nonneg_left (by omega) (by omega)
  omega
structure CfOk (c : Config) : Prop where
  v0 : 0 ≤ c.version
  v1 : c.version ≤ 1000000
  b8 : c.backends.length ≤ 8
  v4 : c.vips.length ≤ 4
  bk : ∀ i, i < c.backends.length → isBk (c.backends.getD i zBackend) = true
  br : ∀ i, 0 < i → i < c.backends.length → (c.backends.getD (i - 1) zBackend).name < (c.backends.getD i zBackend).name
  vp : ∀ i, i < c.vips.length → isVp (c.vips.getD i zVip) = true
  vr : ∀ i, 0 < i → i < c.vips.length → behV (c.vips.getD (i - 1) zVip) (c.vips.getD i zVip) = true
  nb : ∀ i, i < c.vips.length → hasG (noB c.backends) (c.vips.getD i zVip).names = false
  nr : ∀ i, i < c.vips.length → rises (c.vips.getD i zVip).names
theorem nmBad_zero {v : Vip} : scan (nmBad v) v.names.length 1 = 0 ↔ rises v.names := by
  rw [scan_zero]
  constructor
  · intro h i h1 h2
    have := h i (by omega) h2
    unfold nmBad at this
    split at this
    · cases this
    · omega
  · intro h j h1 h2
    have := h j (by omega) h2
    unfold nmBad
    rw [if_neg (by omega)]
theorem cf_ok {c : Config} (h : configFault c = 0) : CfOk c := by
  unfold configFault at h
  split at h
  · cases h
  rename_i g1
  split at h
  · cases h
  rename_i g2
  split at h
  · rename_i g3; exact absurd h g3
  rename_i g3
  have g3 : scan (bkBad c.backends) c.backends.length 0 = 0 := by omega
  have g1 : inR c.version 0 1000000 = true := by simpa using g1
  simp only [inR, Bool.and_eq_true, decide_eq_true_eq] at g1
  have B : ∀ i, i < c.backends.length → isBk (c.backends.getD i zBackend) = true ∧ ¬ (0 < i ∧ (c.backends.getD i zBackend).name ≤ (c.backends.getD (i - 1) zBackend).name) := by
    intro i hi
    have := scan_zero.1 g3 i (by omega) hi
    unfold bkBad at this
    split at this
    · cases this
    rename_i e1
    split at this
    · cases this
    rename_i e2
    exact ⟨by simpa using e1, e2⟩
  have V : ∀ i, i < c.vips.length → isVp (c.vips.getD i zVip) = true ∧ ¬ (0 < i ∧ behV (c.vips.getD (i - 1) zVip) (c.vips.getD i zVip) = false) ∧ hasG (noB c.backends) (c.vips.getD i zVip).names = false ∧ rises (c.vips.getD i zVip).names := by
    intro i hi
    have := scan_zero.1 h i (by omega) hi
    unfold vipBad at this
    split at this
    · cases this
    rename_i e1
    split at this
    · cases this
    rename_i e2
    split at this
    · cases this
    rename_i e3
    exact ⟨by simpa using e1, e2, by simpa using e3, nmBad_zero.1 this⟩
  refine ⟨by omega, by omega, by omega, by omega, fun i hi => (B i hi).1, fun i h0 hi => ?_, fun i hi => (V i hi).1, fun i h0 hi => ?_, fun i hi => (V i hi).2.2.1, fun i hi => (V i hi).2.2.2⟩
  · have := (B i hi).2
    omega
  · have := (V i hi).2.1
    cases e : behV (c.vips.getD (i - 1) zVip) (c.vips.getD i zVip) with
    | true => rfl
    | false => exact absurd ⟨h0, e⟩ this
theorem br_lt {bs : List Backend} (br : ∀ i, 0 < i → i < bs.length → (bs.getD (i - 1) zBackend).name < (bs.getD i zBackend).name) {i : Nat} : ∀ {j : Nat}, i < j → j < bs.length → (bs.getD i zBackend).name < (bs.getD j zBackend).name
  | 0, h1, _ => by omega
  | j + 1, h1, h2 => by
    have e := br (j + 1) (by omega) h2
    simp only [Nat.add_sub_cancel] at e
    by_cases hij : i = j
    · subst hij; exact e
    · have := br_lt br (i := i) (j := j) (by omega) (by omega)
      omega
theorem behV_trans {a b c : Vip} (h1 : behV a b = true) (h2 : behV b c = true) : behV a c = true := by
  unfold behV at *
  grind
theorem behV_asym {a b : Vip} (h1 : behV a b = true) : behV b a = false := by
  unfold behV at *
  grind
theorem behV_tri {a b : Vip} (h1 : behV a b = false) (h2 : isV b.address b.port b.proto a = false) : behV b a = true := by
  unfold behV isV at *
  grind
theorem vr_lt {vs : List Vip} (vr : ∀ i, 0 < i → i < vs.length → behV (vs.getD (i - 1) zVip) (vs.getD i zVip) = true) {i : Nat} : ∀ {j : Nat}, i < j → j < vs.length → behV (vs.getD i zVip) (vs.getD j zVip) = true
  | 0, h1, _ => by omega
  | j + 1, h1, h2 => by
    have e := vr (j + 1) (by omega) h2
    simp only [Nat.add_sub_cancel] at e
    by_cases hij : i = j
    · subst hij; exact e
    · exact behV_trans (vr_lt vr (i := i) (j := j) (by omega) (by omega)) e
theorem put_b {c : Config} (K : CfOk c) {x : Cmd} (h : findB c.backends x.name < 0) : preG (ltB x.name) c.backends ≤ c.backends.length ∧ (∀ q, preG (ltB x.name) c.backends ≤ q → q < c.backends.length → cmpB (bOf x) (c.backends.getD q zBackend) < 0) ∧ (∀ q, q < preG (ltB x.name) c.backends → ¬ cmpB (bOf x) (c.backends.getD q zBackend) < 0) ∧ ∀ i, 0 < i → i < c.backends.length → ¬ cmpB (c.backends.getD i zBackend) (c.backends.getD (i - 1) zBackend) < 0 := by
  refine ⟨preG_le .., fun q h1 h2 => ?_, fun q h1 => ?_, fun i h1 h2 => ?_⟩
  · rw [cmpB_lt]
    have hn := (idxG_neg zBackend h).2 q h2
    have ha := preG_at zBackend (p := ltB x.name) (xs := c.backends) (by omega)
    simp only [ltB, isB, decide_eq_false_iff_not] at ha hn
    show x.name < _
    by_cases e : q = preG (ltB x.name) c.backends
    · rw [← e] at ha
      omega
    · have := br_lt K.br (i := preG (ltB x.name) c.backends) (j := q) (by omega) h2
      omega
  · rw [cmpB_lt]
    have := preG_lt zBackend h1
    simp only [ltB, decide_eq_true_eq] at this
    show ¬ x.name < _
    omega
  · rw [cmpB_lt]
    have := K.br i h1 h2
    omega
theorem cmpV_neg (a b : Vip) : cmpV a b < 0 ↔ behV a b = true := by rw [← cmpV_lt]; simp
theorem put_v {c : Config} (K : CfOk c) {x : Cmd} (h : findV c.vips x.addr x.number x.proto < 0) : preG (ltV (vOf x)) c.vips ≤ c.vips.length ∧ (∀ q, preG (ltV (vOf x)) c.vips ≤ q → q < c.vips.length → cmpV (vOf x) (c.vips.getD q zVip) < 0) ∧ (∀ q, q < preG (ltV (vOf x)) c.vips → ¬ cmpV (vOf x) (c.vips.getD q zVip) < 0) ∧ ∀ i, 0 < i → i < c.vips.length → ¬ cmpV (c.vips.getD i zVip) (c.vips.getD (i - 1) zVip) < 0 := by
  refine ⟨preG_le .., fun q h1 h2 => ?_, fun q h1 => ?_, fun i h1 h2 => ?_⟩
  · rw [cmpV_neg]
    have hn := (idxG_neg zVip h).2 q h2
    have ha := preG_at zVip (p := ltV (vOf x)) (xs := c.vips) (by omega)
    have hn2 := (idxG_neg zVip h).2 (preG (ltV (vOf x)) c.vips) (by omega)
    have hb := behV_tri (a := c.vips.getD (preG (ltV (vOf x)) c.vips) zVip) (b := vOf x) ha hn2
    by_cases e : q = preG (ltV (vOf x)) c.vips
    · rw [← e] at hb
      exact hb
    · exact behV_trans hb (vr_lt K.vr (i := preG (ltV (vOf x)) c.vips) (j := q) (by omega) h2)
  · rw [cmpV_neg]
    have h3 : behV (c.vips.getD q zVip) (vOf x) = true := preG_lt zVip h1
    rw [behV_asym h3]
    simp
  · rw [cmpV_neg, behV_asym (K.vr i h1 h2)]
    simp
theorem riseL_len (xs : List Int) (v : Int) : (riseL xs v).length ≤ xs.length + 1 := by
  have := lbn_le xs v
  unfold riseL
  split
  · omega
  · simp; omega
theorem cutG_len {α : Type} (xs : List α) (i : Nat) : (cutG xs i).length ≤ xs.length := by unfold cutG; simp; omega
theorem putG_len {α : Type} (p : α → Bool) (xs : List α) (b : α) : (putG p xs b).length = xs.length + 1 := by
  have := preG_le p xs
  unfold putG
  simp; omega
theorem cutG_mem {α : Type} {xs : List α} {i : Nat} {y : α} (h : y ∈ cutG xs i) : y ∈ xs := by
  unfold cutG at h
  rcases List.mem_append.1 h with h | h
  · exact List.mem_of_mem_take h
  · exact List.mem_of_mem_drop h
theorem putG_mem {α : Type} {p : α → Bool} {xs : List α} {b y : α} (h : y ∈ putG p xs b) : y ∈ xs ∨ y = b := by
  unfold putG at h
  rcases List.mem_append.1 h with h | h
  · rcases List.mem_append.1 h with h | h
    · exact .inl (List.mem_of_mem_take h)
    · exact .inr (by simpa using h)
  · exact .inl (List.mem_of_mem_drop h)
theorem setV_lim {b : Nat} {c : Config} {n : Nat} {v : Vip} (h : limG b c) (hv : limV b v) : limG b (setV c n v) := by
  refine ⟨h.1, by simp [setV]; exact h.2.1, fun y hy => ?_⟩
  rcases List.mem_or_eq_of_mem_set hy with h1 | h1
  · exact h.2.2 y h1
  · rw [h1]; exact hv
theorem turned_lim {b : Nat} {c : Config} (h : limG b c) (x : Cmd) : limG (b + 1) (turned c x).2 := by
  have h1 : limG (b + 1) c := limG_mono (by omega) h
  have hat : ∀ n, limV b (c.vips.getD n zVip) := fun n => by
    by_cases hn : n < c.vips.length
    · exact h.2.2 _ (getD_mem zVip hn)
    · rw [List.getD_eq_getElem?_getD, List.getElem?_eq_none (by omega)]
      simp [limV, zVip]
  have hl := h.1
  have hl2 := h.2.1
  unfold turned turnV turnB
  repeat' split
  all_goals first
    | exact h1
    | exact ⟨by simp [putG_len]; omega, h1.2.1, h1.2.2⟩
    | exact ⟨by simp [setB]; omega, h1.2.1, h1.2.2⟩
    | (refine ⟨?_, h1.2.1, h1.2.2⟩; have := cutG_len c.backends (bAt c x.name); show (cutG _ _).length ≤ _; omega)
    | (refine ⟨h1.1, ?_, fun y hy => ?_⟩; (show (putG _ _ _).length ≤ _; rw [putG_len]; omega); rcases putG_mem hy with hy | hy; (exact h1.2.2 y hy); rw [hy]; simp [limV, vOf])
    | (refine ⟨h1.1, ?_, fun y hy => h1.2.2 y (cutG_mem hy)⟩; have := cutG_len c.vips (vAt c x); show (cutG _ _).length ≤ _; omega)
    | (refine setV_lim h1 ?_; have := riseL_len (c.vips.getD (vAt c x) zVip).names x.name; have := hat (vAt c x); unfold limV at *; show (riseL _ _).length ≤ _; omega)
    | (refine setV_lim h1 ?_; have := cutG_len (c.vips.getD (vAt c x) zVip).names (lbn (c.vips.getD (vAt c x) zVip).names x.name); have := hat (vAt c x); unfold limV at *; show (cutG _ _).length ≤ _; omega)
theorem zConfig_lim (b : Nat) : limG b zConfig := ⟨by simp [zConfig], by simp [zConfig], by simp [zConfig]⟩
theorem applyR_lim {b : Nat} {c : Config} (h : limG b c) (x : Cmd) : limG (b + 1) (applyR c x).config := by
  unfold applyR
  repeat' split
  · exact zConfig_lim _
  · exact zConfig_lim _
  · exact zConfig_lim _
  · have := turned_lim h x
    exact ⟨this.1, this.2.1, this.2.2⟩
theorem applyCmd_lim {b : Nat} {c : Config} (h : limG b c) (x : Cmd) : limG (b + 1) (applyCmd c x).config := by
  unfold applyCmd
  repeat' split
  · exact zConfig_lim _
  · exact zConfig_lim _
  · exact applyR_lim h x
theorem set_map_I (l : List Int) (n : Nat) (v : Int) : (l.map eI_i64).set n [.int .i64 v] = (l.set n v).map eI_i64 := by simp [List.map_set, eI_i64]
theorem del_rowsR (R : List (List T)) {i j : Nat} (hij : i ≤ j) (hj : j ≤ R.length) (J Z Q : List (List T)) : List.take (i + (R.length - j)) (List.take (i + (R.length - j)) (R.take i ++ R.drop j ++ J) ++ Z ++ Q) = R.take i ++ R.drop j := by
  have hl : (R.take i ++ R.drop j).length = i + (R.length - j) := by simp; omega
  rw [← hl, List.take_left, List.append_assoc, List.take_left]
theorem ins_grow {α : Type} {R V Z D D' J : List α} {i N a b c : Nat} (hi : i ≤ R.length) (hN : N = R.length + V.length) (ha : a = i + V.length) (hb : V.length ≤ b) (hc : c = R.length - i) :
    List.take N (List.take a (List.take i (List.take i R ++ Z) ++ List.take b V ++ D) ++ List.take c (List.drop i (R ++ J)) ++ D') = List.take i R ++ V ++ List.drop i R := by
  rw [List.take_left' (by simp; omega), List.take_of_length_le hb, List.take_left' (by simp; omega), List.drop_append_of_le_length hi, List.take_left' (l₁ := List.drop i R) (by simp; omega), List.take_left' (by simp; omega)]
theorem ins_room {α : Type} {R V D J : List α} {i N a a2 b c : Nat} (hi : i ≤ R.length) (hJ : R.length + V.length ≤ (R ++ J).length) (hN : N = R.length + V.length) (ha : a = i + V.length) (ha2 : a2 = i + V.length) (hb : V.length ≤ b) (hc : c = R.length - i) :
    List.take N (List.take i (List.take a (R ++ J) ++ List.take c (List.drop i (R ++ J)) ++ D) ++ List.take b V ++ List.drop a2 (List.take a (R ++ J) ++ List.take c (List.drop i (R ++ J)) ++ D)) = List.take i R ++ V ++ List.drop i R := by
  have e1 : List.take i (List.take a (R ++ J) ++ List.take c (List.drop i (R ++ J)) ++ D) = List.take i R := by
    rw [List.append_assoc, List.take_append_of_le_length (by simp only [List.length_take]; omega), List.take_take, Nat.min_eq_left (by omega), List.take_append_of_le_length hi]
  have e2 : List.drop a2 (List.take a (R ++ J) ++ List.take c (List.drop i (R ++ J)) ++ D) = List.drop i R ++ D := by
    rw [List.append_assoc, List.drop_left' (by simp only [List.length_take]; omega), List.drop_append_of_le_length hi, List.take_left' (l₁ := List.drop i R) (by simp; omega)]
  rw [e1, e2, List.take_of_length_le hb, ← List.append_assoc, List.take_left' (by simp; omega)]
theorem flat_I (xs : List Int) : ∀ r ∈ xs.map eI_i64, ∀ t ∈ r, t.flat = true := by
  intro r hr t ht
  simp only [List.mem_map] at hr
  obtain ⟨x, _, rfl⟩ := hr
  simp [eI_i64] at ht
  subst ht
  rfl
theorem riseL_no {xs : List Int} {v : Int} (h : hasI xs v = false) : (riseL xs v).map eI_i64 = List.take (lbn xs v) (xs.map eI_i64) ++ [[T.int .i64 v]] ++ List.drop (lbn xs v) (xs.map eI_i64) := by
  unfold riseL
  rw [h]
  simp [eI_i64]
theorem riseL_has {xs : List Int} {v : Int} (h : hasI xs v = true) : riseL xs v = xs := by
  unfold riseL
  rw [if_pos h]
def orL : List Int → Int
  | [] => 0
  | x :: xs => if x ≠ 0 then x else orL xs
theorem orL_zero : ∀ {xs : List Int}, (∀ j, j < xs.length → xs.getD j zI_i64 = 0) → orL xs = 0
  | [], _ => rfl
  | x :: xs, h => by
    have h0 := h 0 (by simp)
    simp only [List.getD_cons_zero] at h0
    rw [orL, if_neg (by omega)]
    exact orL_zero fun j hj => by simpa using h (j + 1) (by simpa using hj)
theorem orL_some : ∀ {xs : List Int} {i : Nat}, i < xs.length → (∀ j, j < i → xs.getD j zI_i64 = 0) → xs.getD i zI_i64 ≠ 0 → orL xs = xs.getD i zI_i64
  | [], _, h, _, _ => by simp at h
  | x :: xs, 0, _, _, h => by
    simp only [List.getD_cons_zero] at h ⊢
    rw [orL, if_pos h]
  | x :: xs, i + 1, hi, h, hx => by
    have h0 := h 0 (by omega)
    simp only [List.getD_cons_zero] at h0
    rw [orL, if_neg (by omega)]
    have := orL_some (xs := xs) (i := i) (by simpa using hi) (fun j hj => by simpa using h (j + 1) (by omega)) (by simpa using hx)
    simpa using this
theorem cmpV_or (a b : Vip) : orL [cmpI a.address b.address, cmpI a.port b.port, cmpI a.proto b.proto] = cmpV a b := by
  unfold orL cmpV
  simp only [orL]
  repeat' split
  all_goals first | rfl | omega | (exfalso; simp_all; done)
theorem roRows_Vip (o : Bool) (xs : List Vip) : roRows (xs.map (eVip o)) = xs.map (eVip false) := roRows_map _ _ (fun _ => rfl) xs
attribute [go_sem] roRows_Vip
theorem mix_getD {α : Type} (f g : α → List T) (z : α) {xs : List α} {i : Nat} (h : i < xs.length) (d : List T) : ((xs.take i).map f ++ (xs.drop i).map g).getD i d = g (xs.getD i z) := by
  rw [drop_getD z h, List.getD_eq_getElem?_getD, List.getElem?_append_right (by simp; omega)]
  simp [Nat.min_eq_left (Nat.le_of_lt h)]
theorem mix_set {α : Type} (f g : α → List T) (z : α) {xs : List α} {i : Nat} (h : i < xs.length) : ((xs.take i).map f ++ (xs.drop i).map g).set i (f (xs.getD i z)) = (xs.take (i + 1)).map f ++ (xs.drop (i + 1)).map g := by
  rw [take_succ_map f z h, drop_getD z h, List.map_cons, List.set_append_right _ _ (by simp; omega)]
  simp [Nat.min_eq_left (Nat.le_of_lt h)]
theorem put_rows {α : Type} (f : α → List T) (xs : List α) {k : Nat} (hk : k ≤ xs.length) (V : List T) : List.take (min k xs.length + 1 + (xs.length - k)) (List.take (min k xs.length + 1) (List.take (min k xs.length) (xs.map f) ++ [V]) ++ List.drop k (xs.map f)) = List.take k (xs.map f) ++ V :: List.drop k (xs.map f) := by
  rw [Nat.min_eq_left hk]
  have e1 : List.take (k + 1) (List.take k (xs.map f) ++ [V]) = List.take k (xs.map f) ++ [V] := List.take_of_length_le (by simp; omega)
  rw [e1, List.take_of_length_le (by simp; omega), List.append_assoc]
  rfl
theorem cut_rows {α : Type} (f : α → List T) (xs : List α) {n : Nat} (hn : n < xs.length) : List.take (min n xs.length + (xs.length - (n + 1))) (List.take (min n xs.length) (xs.map f) ++ List.drop (n + 1) (xs.map f)) = List.take n (xs.map f) ++ List.drop (n + 1) (xs.map f) := by
  rw [Nat.min_eq_left (by omega)]
  exact List.take_of_length_le (by simp; omega)
theorem limV_getD {b : Nat} {vs : List Vip} (h : ∀ y ∈ vs, limV b y) (n : Nat) : limV b (vs.getD n zVip) := by
  by_cases hn : n < vs.length
  · exact h _ (getD_mem zVip hn)
  · rw [List.getD_eq_getElem?_getD, List.getElem?_eq_none (by omega)]
    simp [limV, zVip]
theorem filter_take {α : Type} (p : α → Bool) (z : α) {xs : List α} {i : Nat} (h : i < xs.length) : (xs.take (i + 1)).filter p = (xs.take i).filter p ++ (if p (xs.getD i z) = true then [xs.getD i z] else []) := by
  rw [take_snoc z h, List.filter_append]
  congr 1
  simp only [List.filter_cons, List.filter_nil]
theorem junk_drop0 {α : Type} (J : List T) (f : α → List T) (xs : List α) (n : Nat) : List.drop n (List.replicate n J ++ List.map f (List.drop n xs)) = List.map f (List.drop n xs) := by
  rw [List.drop_append, List.drop_of_length_le (by simp), List.nil_append, List.length_replicate, Nat.sub_self]
  rfl
attribute [go_sem] junk_drop0
theorem idxG_bd {α : Type} (q : α → Bool) : ∀ (xs : List α), idxG q xs < xs.length
  | [] => by simp [idxG]
  | x :: xs => by
    have := idxG_bd q xs
    rw [idxG, List.length_cons]
    split
    · omega
    · split <;> omega
theorem put_rowsV (f : Vip → List T) (xs : List Vip) {k : Nat} (hk : k ≤ xs.length) (V : List T) : List.take (k + 1 + (xs.length - k)) (List.take (k + 1) (List.map f (List.take k xs) ++ [V]) ++ List.map f (List.drop k xs)) = List.map f (List.take k xs) ++ V :: List.map f (List.drop k xs) := by
  have e1 : List.take (k + 1) (List.map f (List.take k xs) ++ [V]) = List.map f (List.take k xs) ++ [V] := List.take_of_length_le (by simp; omega)
  rw [e1, List.take_of_length_le (by simp; omega), List.append_assoc]
  rfl
theorem put_rowsW (f : Vip → List T) (xs : List Vip) {k : Nat} (hk : k ≤ xs.length) (V : List T) : List.take (k + 1 + (xs.length - k)) (List.take (k + 1) (List.take k (List.map f xs) ++ [V]) ++ List.drop k (List.map f xs)) = List.take k (List.map f xs) ++ V :: List.drop k (List.map f xs) := by
  have := put_rowsV f xs hk V
  simpa only [List.map_take, List.map_drop] using this
theorem cut_rowsV (xs : List Vip) {n : Nat} (hn : n < xs.length) : List.take (n + (xs.length - (n + 1))) (List.take n xs ++ List.drop (n + 1) xs) = cutG xs n := List.take_of_length_le (by simp; omega)
def insAt {α : Type} (R : List α) (b : α) (j : Nat) : List α := R.take j ++ b :: R.drop j
def rowI {α : Type} (R : List α) (b : α) (i j : Nat) : List α := if i < R.length then R ++ [b] else insAt R b j
def rowO {α : Type} (R : List α) (b : α) (k i : Nat) : List α := if i ≤ R.length then R ++ [b] else insAt R b k
def verO {α : Type} (R : List α) (k i : Nat) : Nat := if i ≤ R.length then 1 else 1 + 2 * (R.length - k)
theorem insAt_len {α : Type} (R : List α) (b : α) (j : Nat) : (insAt R b j).length = R.length + 1 := by unfold insAt; simp; omega
theorem insAt_end {α : Type} (R : List α) (b : α) : insAt R b R.length = R ++ [b] := by unfold insAt; simp
theorem rowI_len {α : Type} (R : List α) (b : α) (i j : Nat) : (rowI R b i j).length = R.length + 1 := by
  unfold rowI
  split
  · simp
  · exact insAt_len ..
theorem rowO_len {α : Type} (R : List α) (b : α) (k i : Nat) : (rowO R b k i).length = R.length + 1 := by
  unfold rowO
  split
  · simp
  · exact insAt_len ..
theorem rowI_self {α : Type} (R : List α) (b : α) {i : Nat} (h : i ≤ R.length) : rowI R b i i = R ++ [b] := by
  unfold rowI
  split
  · rfl
  · rw [show i = R.length by omega]; exact insAt_end R b
theorem rowO_in {α : Type} (R : List α) (b : α) (k : Nat) {i : Nat} (h : i ≤ R.length) : rowO R b k i = R ++ [b] := if_pos h
theorem verO_in {α : Type} (R : List α) (k : Nat) {i : Nat} (h : i ≤ R.length) : verO R k i = 1 := if_pos h
theorem rowO_one {α : Type} (R : List α) (b : α) {k : Nat} (hk : k ≤ R.length) : rowO R b k 1 = R ++ [b] := by
  unfold rowO
  split
  · rfl
  · rw [show k = R.length by omega]; exact insAt_end R b
theorem verO_one {α : Type} (R : List α) {k : Nat} (hk : k ≤ R.length) : verO R k 1 = 1 := by
  unfold verO
  split
  · rfl
  · omega
theorem rowO_out {α : Type} (R : List α) (b : α) (k : Nat) : rowO R b k (R.length + 1) = insAt R b k := if_neg (by omega)
theorem rowI_lo {α : Type} (R : List α) (b : α) (z : α) {i j q : Nat} (h : i < R.length) (hq : q ≤ i) : (rowI R b i j).getD q z = R.getD q z := by
  unfold rowI
  rw [if_pos h, List.getD_eq_getElem?_getD, List.getElem?_append_left (by omega), ← List.getD_eq_getElem?_getD]
theorem rowI_at {α : Type} (R : List α) (b : α) (z : α) {i j : Nat} (h : i = R.length) (hj : j ≤ i) : (rowI R b i j).getD j z = b := by
  unfold rowI insAt
  rw [if_neg (by omega), List.getD_eq_getElem?_getD, List.getElem?_append_right (by simp; omega)]
  simp [Nat.min_eq_left (show j ≤ R.length by omega)]
theorem rowI_pre {α : Type} (R : List α) (b : α) (z : α) {i j : Nat} (h : i = R.length) (hj : j ≤ i) (h0 : 0 < j) : (rowI R b i j).getD (j - 1) z = R.getD (j - 1) z := by
  unfold rowI insAt
  rw [if_neg (by omega), List.getD_eq_getElem?_getD, List.getElem?_append_left (by simp; omega), List.getElem?_take_of_lt (by omega), ← List.getD_eq_getElem?_getD]
theorem rowI_swap {α : Type} (e : α → List T) (R : List α) (b : α) (z : α) {i j : Nat} (h : i = R.length) (hj : j ≤ i) (h0 : 0 < j) :
    (((rowI R b i j).map e).set j (e ((rowI R b i j).getD (j - 1) z))).set (j - 1) (e ((rowI R b i j).getD j z)) = (rowI R b i (j - 1)).map e := by
  rw [rowI_at R b z h hj, rowI_pre R b z h hj h0]
  unfold rowI insAt
  rw [if_neg (by omega), if_neg (by omega)]
  obtain ⟨m, rfl⟩ : ∃ m, j = m + 1 := ⟨j - 1, by omega⟩
  simp only [Nat.add_sub_cancel]
  have hm : m < R.length := by omega
  rw [take_snoc z hm, drop_getD z hm]
  have e1 : (List.map e (List.take m R ++ [R.getD m z] ++ b :: List.drop (m + 1) R)) = List.map e (List.take m R) ++ (e (R.getD m z) :: e b :: List.map e (List.drop (m + 1) R)) := by simp
  rw [e1, List.set_append_right _ _ (by simp; omega), List.set_append_right _ _ (by simp; omega)]
  have hl : (List.map e (List.take m R)).length = m := by simp; omega
  rw [hl, Nat.sub_self, show m + 1 - m = 1 by omega]
  simp
theorem rowI_end {α : Type} {cm : α → α → Int} {R : List α} {b : α} (z : α) {i j k : Nat} (hi : i ≤ R.length) (hj : j ≤ i) (h1 : ∀ q, k ≤ q → q < R.length → cm b (R.getD q z) < 0) (h4 : i = R.length → k ≤ j)
    (hc : ¬ (0 < j ∧ cm ((rowI R b i j).getD j z) ((rowI R b i j).getD (j - 1) z) < 0)) : rowI R b i j = rowO R b k (i + 1) ∧ (i = R.length → j = k) := by
  have hjk : i = R.length → j = k := fun h => by
    by_cases h0 : 0 < j
    · rw [rowI_at R b z h hj, rowI_pre R b z h hj h0] at hc
      by_cases hk : k ≤ j - 1
      · exact absurd ⟨h0, h1 (j - 1) hk (by omega)⟩ hc
      · have := h4 h
        omega
    · have := h4 h
      omega
  refine ⟨?_, hjk⟩
  unfold rowI rowO
  by_cases h : i < R.length
  · rw [if_pos h, if_pos (by omega)]
  · rw [if_neg h, if_neg (by omega), hjk (by omega)]
theorem rowI_go {α : Type} {cm : α → α → Int} {R : List α} {b : α} (z : α) {i j k : Nat} (hi : i ≤ R.length) (hj : j ≤ i) (h3 : ∀ i, 0 < i → i < R.length → ¬ cm (R.getD i z) (R.getD (i - 1) z) < 0) (h5 : i < R.length → j = i) (h2 : ∀ q, q < k → ¬ cm b (R.getD q z) < 0)
    (hc : 0 < j ∧ cm ((rowI R b i j).getD j z) ((rowI R b i j).getD (j - 1) z) < 0) : i = R.length ∧ k ≤ j - 1 := by
  obtain ⟨h0, hc⟩ := hc
  have h : i = R.length := by
    by_cases h : i < R.length
    · have e := h5 h
      subst e
      rw [rowI_lo R b z h (by omega), rowI_lo R b z h (by omega)] at hc
      exact absurd hc (h3 _ h0 h)
    · omega
  refine ⟨h, ?_⟩
  rw [rowI_at R b z h hj, rowI_pre R b z h hj h0] at hc
  by_cases hk : k ≤ j - 1
  · exact hk
  · exact absurd hc (h2 (j - 1) (by omega))
attribute [go_sem] rowI_len rowO_len insAt_len
abbrev RVp := Vip × (Option Addr × Nat × Nat)
def eRV (p : RVp) : List T := [.int .i64 p.1.address, .int .i64 p.1.port, .int .i64 p.1.proto, .val (.slice p.2.1 p.2.2.1 p.2.2.2)]
def zRV : RVp := (zVip, none, 0, 0)
def dHL : List T := [.sl true 7 []]
attribute [go_sem] dHL
def dRV : List T := eRV zRV
theorem getD_RV (xs : List RVp) (i : Nat) : (xs.map eRV).getD i dRV = eRV (xs.getD i zRV) := getD_map_ ..
theorem tm_RV : tm dRV = [.int .i64 0, .int .i64 0, .int .i64 0, .val (.slice none 0 0)] := rfl
theorem dropd_RV : List.drop 4 dRV = [] := rfl
attribute [go_sem] eRV getD_RV tm_RV dropd_RV
def OwN (w : World) (fz : Nat → Prop) : List RVp → (Nat → Prop) → Prop
  | [], _ => True
  | p :: ps, S => ∃ S1 S2 : Nat → Prop, (∀ b, S1 b → S b ∧ ¬ S2 b) ∧ (∀ b, S2 b → S b) ∧ OwT w fz (.sl true 1 (p.1.names.map eI_i64)) S1 (.slice p.2.1 p.2.2.1 p.2.2.2) ∧ OwN w fz ps S2
theorem OwN.sub {w : World} {fz : Nat → Prop} : ∀ {zs : List RVp} {S S' : Nat → Prop}, (∀ b, S b → S' b) → OwN w fz zs S → OwN w fz zs S'
  | [], _, _, _, _ => trivial
  | p :: ps, S, S', h, hr => by
    obtain ⟨S1, S2, h1, h2, h3, h4⟩ := hr
    exact ⟨S1, S2, fun b hb => ⟨h b (h1 b hb).1, (h1 b hb).2⟩, fun b hb => h b (h2 b hb), h3, h4⟩
theorem OwN.mono {w w' : World} {fz fz' : Nat → Prop} (hs : w.heap.size ≤ w'.heap.size) (hf : ∀ b, b < w.heap.size → fz b → fz' b ∧ w'.heap[b]? = w.heap[b]?) : ∀ {zs : List RVp} {S : Nat → Prop}, (∀ b, S b → b < w.heap.size → w'.heap[b]? = w.heap[b]?) → OwN w fz zs S → OwN w' fz' zs S
  | [], _, _, _ => trivial
  | p :: ps, S, h, hr => by
    obtain ⟨S1, S2, h1, h2, h3, h4⟩ := hr
    exact ⟨S1, S2, h1, h2, OwT.mono hs hf (fun _ => id) (fun b hb => h b (h1 b hb).1) h3, OwN.mono hs hf (fun b hb => h b (h2 b hb)) h4⟩
theorem OwN.split {w : World} {fz : Nat → Prop} : ∀ {a b : List RVp} {S : Nat → Prop}, OwN w fz (a ++ b) S → ∃ S1 S2 : Nat → Prop, (∀ x, S1 x → S x ∧ ¬ S2 x) ∧ (∀ x, S2 x → S x) ∧ OwN w fz a S1 ∧ OwN w fz b S2
  | [], b, S, h => ⟨fun _ => False, S, fun _ h => h.elim, fun _ h => h, trivial, h⟩
  | p :: a, b, S, h => by
    obtain ⟨S1, S2, h1, h2, h3, h4⟩ := h
    obtain ⟨R1, R2, h5, h6, h7, h8⟩ := OwN.split h4
    refine ⟨fun x => S1 x ∨ R1 x, R2, fun x hx => ?_, fun x hx => h2 x (h6 x hx), ⟨S1, R1, fun x hx => ⟨.inl hx, fun hr => (h1 x hx).2 (h5 x hr).1⟩, fun x hx => .inr hx, h3, h7⟩, h8⟩
    rcases hx with hx | hx
    · exact ⟨(h1 x hx).1, fun hr => (h1 x hx).2 (h6 x hr)⟩
    · exact ⟨h2 x (h5 x hx).1, (h5 x hx).2⟩
theorem OwN.join {w : World} {fz : Nat → Prop} : ∀ {a b : List RVp} {S1 S2 : Nat → Prop}, (∀ x, S1 x → ¬ S2 x) → OwN w fz a S1 → OwN w fz b S2 → OwN w fz (a ++ b) (fun x => S1 x ∨ S2 x)
  | [], b, S1, S2, _, _, h2 => h2.sub fun _ => .inr
  | p :: a, b, S1, S2, hd, h1, h2 => by
    obtain ⟨R1, R2, h3, h4, h5, h6⟩ := h1
    refine ⟨R1, fun x => R2 x ∨ S2 x, fun x hx => ⟨.inl (h3 x hx).1, fun hr => ?_⟩, fun x hx => hx.imp (h4 x) id, h5, OwN.join (fun x hx => hd x (h4 x hx)) h6 h2⟩
    rcases hr with hr | hr
    · exact (h3 x hx).2 hr
    · exact hd x (h3 x hx).1 hr
theorem OwN.turn {w : World} {fz : Nat → Prop} {a b : List RVp} {S : Nat → Prop} (h : OwN w fz (a ++ b) S) : OwN w fz (b ++ a) S := by
  obtain ⟨S1, S2, h1, h2, h3, h4⟩ := h.split
  refine (OwN.join (fun x hx hy => (h1 x hy).2 hx) h4 h3).sub fun x hx => ?_
  rcases hx with hx | hx
  · exact h2 x hx
  · exact (h1 x hx).1
theorem OwN.ins {w : World} {fz : Nat → Prop} {R : List RVp} {b : RVp} (k : Nat) {S : Nat → Prop} (h : OwN w fz (R ++ [b]) S) : OwN w fz (insAt R b k) S := by
  have e : R ++ [b] = R.take k ++ (R.drop k ++ [b]) := by rw [← List.append_assoc, List.take_append_drop]
  rw [e] at h
  obtain ⟨S1, S2, h1, h2, h3, h4⟩ := h.split
  refine (OwN.join (b := [b] ++ R.drop k) (fun x hx => (h1 x hx).2) h3 h4.turn).sub fun x hx => ?_
  rcases hx with hx | hx
  · exact (h1 x hx).1
  · exact h2 x hx
theorem OwN.raw {w : World} {fz : Nat → Prop} : ∀ {xs : List Vip} {S : Nat → Prop} {vs : List Value}, OwRows w fz 4 (xs.map (eVip true)) S vs → ∃ zs : List RVp, zs.map (·.1) = xs ∧ OwRows w fz 4 (zs.map eRV) (fun _ => False) vs ∧ OwN w fz zs S
  | [], _, vs, h => ⟨[], rfl, by simpa only [List.map_nil, OwRows] using h, trivial⟩
  | x :: xs, S, vs, h => by
    simp only [List.map_cons, OwRows] at h
    obtain ⟨c, d, S1, S2, rfl, h1, h2, _, h3, h4⟩ := h
    obtain ⟨zs, e, h5, h6⟩ := OwN.raw h4
    simp only [eVip, OwL] at h3
    obtain ⟨u1, _, A1, B1, rfl, _, q1, e1, u2, _, A2, B2, rfl, _, q2, e2, u3, _, A3, B3, rfl, _, q3, e3, u4, _, A4, B4, rfl, q4, _, e4, rfl⟩ := h3
    have e5 := e4
    simp only [OwT] at e5
    obtain ⟨n1, n2, rfl, _⟩ := e5
    refine ⟨(x, n1, (x.names.map eI_i64).length, n2) :: zs, by simp [e], ?_, A4, S2, fun b hb => ?_, h2, e4, h6⟩
    · simp only [List.map_cons, OwRows]
      refine ⟨[u1, u2, u3, _], d, fun _ => False, fun _ => False, rfl, fun _ h => h.elim, fun _ h => h, rfl, ?_, h5⟩
      simp only [eRV, OwL]
      have hF : ∀ b : Nat, (fun _ : Nat => False) b → (fun _ : Nat => False) b ∧ ¬ (fun _ : Nat => False) b := fun _ h => h.elim
      simp only [OwT] at e1 e2 e3
      exact ⟨u1, _, fun _ => False, fun _ => False, rfl, hF, fun _ h => h, by simp only [OwT]; exact e1, u2, _, fun _ => False, fun _ => False, rfl, hF, fun _ h => h, by simp only [OwT]; exact e2, u3, _, fun _ => False, fun _ => False, rfl, hF, fun _ h => h, by simp only [OwT]; exact e3,
        _, _, fun _ => False, fun _ => False, rfl, hF, fun _ h => h, by simp only [OwT], rfl⟩
    · exact h1 b (q1 b (q2 b (q3 b (q4 b hb).1)))
theorem OwN.back {w : World} {fz : Nat → Prop} : ∀ {zs : List RVp} {S0 S : Nat → Prop} {vs : List Value}, OwRows w fz 4 (zs.map eRV) S0 vs → OwN w fz zs S → OwRows w fz 4 ((zs.map (·.1)).map (eVip true)) S vs
  | [], _, _, vs, h, _ => by simpa only [List.map_nil, OwRows] using h
  | p :: zs, S0, S, vs, h, hn => by
    simp only [List.map_cons, OwRows] at h ⊢
    obtain ⟨c, d, S1, S2, rfl, h1, h2, _, h3, h4⟩ := h
    obtain ⟨R1, R2, n1, n2, n3, n4⟩ := hn
    refine ⟨c, d, R1, R2, rfl, n1, n2, rfl, ?_, OwN.back h4 n4⟩
    simp only [eRV, OwL] at h3
    obtain ⟨u1, _, A1, B1, rfl, _, q1, e1, u2, _, A2, B2, rfl, _, q2, e2, u3, _, A3, B3, rfl, _, q3, e3, u4, _, A4, B4, rfl, q4, _, e4, rfl⟩ := h3
    simp only [OwT] at e1 e2 e3 e4
    subst e4
    simp only [eVip, OwL]
    have hF : ∀ b : Nat, (fun _ : Nat => False) b → R1 b ∧ ¬ R1 b := fun _ h => h.elim
    exact ⟨u1, _, fun _ => False, R1, rfl, hF, fun _ h => h, by simp only [OwT]; exact e1, u2, _, fun _ => False, R1, rfl, hF, fun _ h => h, by simp only [OwT]; exact e2, u3, _, fun _ => False, R1, rfl, hF, fun _ h => h, by simp only [OwT]; exact e3,
      _, _, R1, fun _ => False, rfl, fun _ h => ⟨h, id⟩, fun _ h => h.elim, n3, rfl⟩
theorem SemX_rawVip {P : Program} [Inv P] {f : FuncId} {av : List Arg} {rs : List TV} {R : List Vip} {b : Vip} {k : Nat} (h : ∀ (R' : List RVp) (b' : RVp), R'.map (·.1) = R → b'.1 = b → SemX P f av [.arr 4 ((R' ++ [b']).map eRV)] rs [.arr 4 ((insAt R' b' k).map eRV)]) :
    SemX P f av [.arr 4 ((R ++ [b]).map (eVip true))] rs [.arr 4 ((insAt R b k).map (eVip true))] := by
  intro w fz Sa So hs vs hI hfz hS hd ha ho
  simp only [ObRepL, ObRep, OwT] at ho
  obtain ⟨_, us, S1, S2, rfl, h1, h2, ⟨base, cap, rfl, hc, hm, hrow⟩, rfl⟩ := ho
  rcases hrow with ⟨he, _⟩ | ⟨bb, cur, e, rfl, hb, hbb, hsz, hrow⟩
  · simp at he
  obtain ⟨zs, hz, hz1, hz2⟩ := OwN.raw hrow
  obtain ⟨R', l2, rfl, rfl, e2⟩ := List.map_eq_append_iff.1 hz
  obtain ⟨b', rfl, rfl⟩ : ∃ b' : RVp, l2 = [b'] ∧ b'.1 = b := by
    cases l2 with
    | nil => simp at e2
    | cons b' l =>
      simp only [List.map_cons, List.cons.injEq, List.map_eq_nil_iff] at e2
      exact ⟨b', by rw [e2.2], e2.1⟩
  have hlt : bb < w.heap.size := (Array.getElem?_eq_some_iff.1 hbb).1
  have hSo : So bb := (h1 bb hb).1
  have hlen : ((R'.map (·.1) ++ [b'.1]).map (eVip true)).length = ((R' ++ [b']).map eRV).length := by simp
  have hlen2 : ((insAt R' b' k).map eRV).length = ((R' ++ [b']).map eRV).length := by simp [insAt_len]
  rw [hlen] at hc hz1 ha ⊢
  refine (h R' b' rfl rfl w fz Sa (fun x => x = bb) _ vs hI hfz (fun x hx => ?_) (fun x hx e => ?_) ha ?_).mono ?_
  · rcases hx with hx | rfl
    · exact hS x (.inl hx)
    · exact hS x (.inr hSo)
  · subst e; exact hd x hx hSo
  · simp only [ObRepL, ObRep, OwT]
    exact ⟨_, [], fun x => x = bb, fun _ => False, rfl, fun x hx => ⟨hx, id⟩, fun _ h => h.elim, ⟨_, cap, rfl, hc, hm, .inr ⟨bb, cur, e, rfl, rfl, hbb, hsz, OwRows.sub (fun _ h => h.elim) hz1⟩⟩, rfl⟩
  rintro e w' ⟨v, fz', Sr, So', p⟩
  have po := p.obs
  simp only [ObRepL, ObRep, OwT] at po
  obtain ⟨_, _, T1, T2, hh, t1, t2, ⟨base', cap', rfl, hc', hm', hrow'⟩, rfl⟩ := po
  simp only [List.cons.injEq, Value.slice.injEq, and_true] at hh
  obtain ⟨rfl, _, rfl⟩ := hh
  rcases hrow' with ⟨he, _⟩ | ⟨b2, cur2, el2, hb2, hT, hbb2, hsz2, hrow2⟩
  · simp [insAt] at he
  simp only [Option.some.injEq, Addr.mk.injEq, and_true] at hb2
  subst hb2
  have hN : ∀ x, (S1 x ∧ x ≠ bb) → So x ∧ x < w.heap.size ∧ ¬ fz x ∧ ¬ Sa x ∧ x ≠ bb := fun x hx => by
    have h3 := (h1 x hx.1).1
    have h4 := hS x (.inr h3)
    exact ⟨h3, h4.1, h4.2.1, fun h5 => hd x h5 h3, hx.2⟩
  have hsame : ∀ x, (S1 x ∧ x ≠ bb) → x < w.heap.size → w'.heap[x]? = w.heap[x]? := fun x hx hl => p.same x hl fun h3 => by
    rcases h3 with h3 | h3
    · exact (hN x hx).2.2.2.1 h3
    · exact hx.2 h3
  have hfzm : ∀ x, x < w.heap.size → fz x → fz' x ∧ w'.heap[x]? = w.heap[x]? := fun x hl hx => ⟨p.fz1 x hx, p.same x hl fun h3 => by
    rcases h3 with h3 | h3
    · exact (hS x (.inl h3)).2.1 hx
    · subst h3; exact (hS x (.inr hSo)).2.1 hx⟩
  have hq := (OwN.mono p.size hfzm hsame hz2).ins k
  have hnf : ∀ x, (S1 x ∧ x ≠ bb) → ¬ fz' x := fun x hx h3 => by
    obtain ⟨n1, n2, n3, n4, n5⟩ := hN x hx
    rcases (p.fz2 x h3).2 with h4 | (h4 | h4) | h4
    · exact n3 h4
    · exact n4 h4
    · exact n5 h4
    · omega
  refine ⟨v, fz', Sr, fun x => x = bb ∨ (S1 x ∧ x ≠ bb), ⟨p.ret, p.os, p.tape, p.output, p.size, fun x hl hx => p.same x hl fun h3 => hx ?_, p.fz1, fun x hx => ?_, fun x hx => ?_, fun x hx h3 => ?_, p.res, ?_⟩⟩
  · rcases h3 with h3 | rfl
    · exact .inl h3
    · exact .inr hSo
  · refine ⟨(p.fz2 x hx).1, ?_⟩
    rcases (p.fz2 x hx).2 with h4 | (h4 | h4) | h4
    · exact .inl h4
    · exact .inr (.inl (.inl h4))
    · subst h4; exact .inr (.inl (.inr hSo))
    · exact .inr (.inr h4)
  · rcases hx with hx | hx | hx
    · obtain ⟨a1, a2, a3⟩ := p.own x (.inl hx)
      refine ⟨a1, a2, ?_⟩
      rcases a3 with (a3 | a3) | a3
      · exact .inl (.inl a3)
      · subst a3; exact .inl (.inr hSo)
      · exact .inr a3
    · subst hx
      obtain ⟨a1, a2, a3⟩ := p.own x (.inr (t1 x hT).1)
      exact ⟨a1, a2, .inl (.inr hSo)⟩
    · obtain ⟨n1, n2, n3, n4, n5⟩ := hN x hx
      exact ⟨Nat.lt_of_lt_of_le n2 p.size, hnf x hx, .inl (.inr n1)⟩
  · rcases h3 with h3 | h3
    · subst h3; exact p.dis x hx (t1 x hT).1
    · obtain ⟨n1, n2, n3, n4, n5⟩ := hN x h3
      rcases (p.own x (.inl hx)).2.2 with (a3 | a3) | a3
      · exact n4 a3
      · exact n5 a3
      · omega
  · have e3 : ((insAt (R'.map (·.1)) b'.1 k).map (eVip true)) = ((insAt R' b' k).map (·.1)).map (eVip true) := by simp [insAt, List.map_take, List.map_drop]
    simp only [ObRepL, ObRep, OwT]
    rw [e3]
    have hlen3 : (((insAt R' b' k).map (·.1)).map (eVip true)).length = ((insAt R' b' k).map eRV).length := by simp
    refine ⟨_, [], fun x => x = bb ∨ (S1 x ∧ x ≠ bb), fun _ => False, rfl, fun x hx => ⟨hx, id⟩, fun _ h => h.elim, ⟨_, cap, by rw [hlen3, hlen2], by rw [hlen3]; exact hc', hm, .inr ⟨bb, cur2, el2, rfl, .inl rfl, hbb2, hsz2, ?_⟩⟩, rfl⟩
    rw [hlen3]
    exact OwRows.sub (fun x hx => ⟨.inr hx, hx.2⟩) (OwN.back hrow2 hq)
theorem fst_RV (xs : List RVp) (i : Nat) : (xs.map (·.1)).getD i zVip = (xs.getD i zRV).1 := by
  simp only [List.getD_eq_getElem?_getD, List.getElem?_map]
  cases xs[i]? <;> rfl
end Go.H
end
section
set_option linter.unusedVariables false
namespace Go.H
open Go Go.Proofs.Tryz
noncomputable def tbl : Nat → Bool → List T
  | 2, _ => dI_i64
  | 3, _ => dI_i64
  | 5, _ => dI_u8
  | 6, _ => dI_u8
  | 29, b => dConfig b
  | 32, b => dMachine b
  | 34, b => dMachineResult b
  | 38, b => dConfigsResult b
  | 43, _ => dCmd
  | 45, _ => dEntry
  | 54, b => dUpdate b
  | 56, b => dUpdateResult b
  | 60, b => dWatch b
  | 62, b => dWatchResult b
  | 68, _ => dIntResult
  | 83, _ => dBackend
  | 87, b => dVip b
  | 94, _ => dSession
  | 111, b => dConfigResult b
  | 183, _ => dI_i64
  | 221, _ => dI_u8
  | 222, _ => dI_u8
  | 90001, _ => dRV
  | _, _ => []
theorem tb2 (b : Bool) : tbl 2 b = dI_i64 := rfl
theorem tb3 (b : Bool) : tbl 3 b = dI_i64 := rfl
theorem tb5 (b : Bool) : tbl 5 b = dI_u8 := rfl
theorem tb6 (b : Bool) : tbl 6 b = dI_u8 := rfl
theorem tb29 (b : Bool) : tbl 29 b = dConfig b := rfl
theorem tb32 (b : Bool) : tbl 32 b = dMachine b := rfl
theorem tb34 (b : Bool) : tbl 34 b = dMachineResult b := rfl
theorem tb38 (b : Bool) : tbl 38 b = dConfigsResult b := rfl
theorem tb43 (b : Bool) : tbl 43 b = dCmd := rfl
theorem tb45 (b : Bool) : tbl 45 b = dEntry := rfl
theorem tb54 (b : Bool) : tbl 54 b = dUpdate b := rfl
theorem tb56 (b : Bool) : tbl 56 b = dUpdateResult b := rfl
theorem tb60 (b : Bool) : tbl 60 b = dWatch b := rfl
theorem tb62 (b : Bool) : tbl 62 b = dWatchResult b := rfl
theorem tb68 (b : Bool) : tbl 68 b = dIntResult := rfl
theorem tb83 (b : Bool) : tbl 83 b = dBackend := rfl
theorem tb87 (b : Bool) : tbl 87 b = dVip b := rfl
theorem tb94 (b : Bool) : tbl 94 b = dSession := rfl
theorem tb111 (b : Bool) : tbl 111 b = dConfigResult b := rfl
theorem tb183 (b : Bool) : tbl 183 b = dI_i64 := rfl
theorem tb221 (b : Bool) : tbl 221 b = dI_u8 := rfl
theorem tb222 (b : Bool) : tbl 222 b = dI_u8 := rfl
theorem tb90001 (b : Bool) : tbl 90001 b = dRV := rfl
noncomputable def tr0 : List TypeInfo := [t0, t1, t2, t3, t4, t5, t6, t7, t8, t9, t10, t11, t12, t13, t14, t15]
noncomputable def tr1 : List TypeInfo := [t16, t17, t18, t19, t20, t21, t22, t23, t24, t25, t26, t27, t28, t29, t30, t31]
noncomputable def tr2 : List TypeInfo := [t32, t33, t34, t35, t36, t37, t38, t39, t40, t41, t42, t43, t44, t45, t46, t47]
noncomputable def tr3 : List TypeInfo := [t48, t49, t50, t51, t52, t53, t54, t55, t56, t57, t58, t59, t60, t61, t62, t63]
noncomputable def tr4 : List TypeInfo := [t64, t65, t66, t67, t68, t69, t70, t71, t72, t73, t74, t75, t76, t77, t78, t79]
noncomputable def tr5 : List TypeInfo := [t80, t81, t82, t83, t84, t85, t86, t87, t88, t89, t90, t91, t92, t93, t94, t95]
noncomputable def tr6 : List TypeInfo := [t96, t97, t98, t99, t100, t101, t102, t103, t104, t105, t106, t107, t108, t109, t110, t111]
noncomputable def tr7 : List TypeInfo := [t112, t113, t114, t115, t116, t117, t118, t119, t120, t121, t122, t123, t124, t125, t126, t127]
noncomputable def tr8 : List TypeInfo := [t128, t129, t130, t131, t132, t133, t134, t135, t136, t137, t138, t139, t140, t141, t142, t143]
noncomputable def tr9 : List TypeInfo := [t144, t145, t146, t147, t148, t149, t150, t151, t152, t153, t154, t155, t156, t157, t158, t159]
noncomputable def tr10 : List TypeInfo := [t160, t161, t162, t163, t164, t165, t166, t167, t168, t169, t170, t171, t172, t173, t174, t175]
noncomputable def tr11 : List TypeInfo := [t176, t177, t178, t179, t180, t181, t182, t183, t184, t185, t186, t187, t188, t189, t190, t191]
noncomputable def tr12 : List TypeInfo := [t192, t193, t194, t195, t196, t197, t198, t199, t200, t201, t202, t203, t204, t205, t206, t207]
noncomputable def tr13 : List TypeInfo := [t208, t209, t210, t211, t212, t213, t214, t215, t216, t217, t218, t219, t220, t221, t222, t223]
noncomputable def tr14 : List TypeInfo := [t224, t225, t226, t227, t228, t229]
noncomputable def tys (t : Nat) : Option TypeInfo := tyG [tr0, tr1, tr2, tr3, tr4, tr5, tr6, tr7, tr8, tr9, tr10, tr11, tr12, tr13, tr14] t
theorem goF [Inv prog] {fn : Func} {f : FuncId} {av : List Arg} {L : List Ob} {rs : List TV} {L' : List Ob} {c : (Nat → Bool → List T) → SC} {c' : SC} {rvs : List RV} (hs : List (Nat × Hn)) (dr : List (Nat × Nat × List Nat × List Nat)) (dp : List (Nat × List Nat)) (hf : prog.funcs[f]? = some fn)
    (k : CW prog c' (endX rvs L rs L') (initS av L)) (hc : ∀ tb, genF tys fn tb hs dr dp = c tb := by intro tb; cbv) (hcc : c tbl = c' := by first | (dsimp only [tb2, tb3, tb5, tb6, tb29, tb32, tb34, tb38, tb43, tb45, tb54, tb56, tb60, tb62, tb68, tb83, tb87, tb94, tb111, tb183, tb221, tb222, tb90001] <;> exact rfl) | exact rfl) (hk : OkG prog fn (genF tys fn tbl hs dr dp) := by exact ⟨_, rfl, by kernel_rfl, by kernel_rfl⟩)
    (h0 : cmpR prog fn.results.toList = some (rvG tys fn.results.toList) := by kernel_rfl) (hr : rvG tys fn.results.toList = rvs := by cbv) (hn : Nat.ble av.length fn.ntmps = true := by kernel_rfl) (has : Nat.ble av.length 199 = true := by rfl)
    (hok : ∀ o ∈ L, obOk o := by first | (simp; done) | (simp [obOk]; done) | (simp [obOk, go_sem]; done)) (hok2 : ∀ a ∈ av, argOk a := by first | (simp [argOk, aT, aI, aS]; done) | (simp [argOk, go_sem]; done)) : SemX prog f av L rs L' := by
  obtain ⟨cc, g1, g2, g3⟩ := hk
  subst hcc
  subst hr
  rw [hc tbl] at g2 g3
  exact SemX.of_code hf g1 g2 g3 h0 (Nat.le_of_ble_eq_true hn) (Nat.lt_succ_of_le (Nat.le_of_ble_eq_true has)) hok hok2 k
theorem goFC [Inv prog] {fn : Func} {f : FuncId} {av : List Arg} {L : List Ob} {rs : List TV} {L' : List Ob} {c : (Nat → Bool → List T) → SC} {c' : SC} {rvs : List RV} (k0 : Nat) {A : Arr} (hs : List (Nat × Hn)) (dr : List (Nat × Nat × List Nat × List Nat)) (dp : List (Nat × List Nat)) (hf : prog.funcs[f]? = some fn)
    (k : ∀ cp, A.rows.length ≤ cp → cp ≤ 9223372036854775807 → CW prog c' (endX rvs L rs L') ((initS av L).full k0 cp)) (hk0 : look k0 (initS av L).ms = some (.arr A) := by exact rfl) (hc : ∀ tb, genF tys fn tb hs dr dp = c tb := by intro tb; cbv) (hcc : c tbl = c' := by first | (dsimp only [tb2, tb3, tb5, tb6, tb29, tb32, tb34, tb38, tb43, tb45, tb54, tb56, tb60, tb62, tb68, tb83, tb87, tb94, tb111, tb183, tb221, tb222, tb90001] <;> exact rfl) | exact rfl) (hk : OkG prog fn (genF tys fn tbl hs dr dp) := by exact ⟨_, rfl, by kernel_rfl, by kernel_rfl⟩)
    (h0 : cmpR prog fn.results.toList = some (rvG tys fn.results.toList) := by kernel_rfl) (hr : rvG tys fn.results.toList = rvs := by cbv) (hn : Nat.ble av.length fn.ntmps = true := by kernel_rfl) (has : Nat.ble av.length 199 = true := by rfl)
    (hok : ∀ o ∈ L, obOk o := by first | (simp; done) | (simp [obOk]; done) | (simp [obOk, go_sem]; done)) (hok2 : ∀ a ∈ av, argOk a := by first | (simp [argOk, aT, aI, aS]; done) | (simp [argOk, go_sem]; done)) : SemX prog f av L rs L' := by
  obtain ⟨cc, g1, g2, g3⟩ := hk
  subst hcc
  subst hr
  rw [hc tbl] at g2 g3
  exact SemX.of_codeC k0 hf g1 g2 g3 h0 (Nat.le_of_ble_eq_true hn) (Nat.lt_succ_of_le (Nat.le_of_ble_eq_true has)) hok hok2 hk0 k
theorem goL [Inv prog] {fn : Func} {f : FuncId} {av : List Arg} {cells : List T} {c : (Nat → Bool → List T) → SC} {c' : SC} {rvs : List RV} (hs : List (Nat × Hn)) (dr : List (Nat × Nat × List Nat × List Nat)) (dp : List (Nat × List Nat)) (hf : prog.funcs[f]? = some fn)
    (k : CW prog c' (endL rvs cells) (initS av [])) (hc : ∀ tb, genF tys fn tb hs dr dp = c tb := by intro tb; cbv) (hcc : c tbl = c' := by first | (dsimp only [tb2, tb3, tb5, tb6, tb29, tb32, tb34, tb38, tb43, tb45, tb54, tb56, tb60, tb62, tb68, tb83, tb87, tb94, tb111, tb183, tb221, tb222, tb90001] <;> exact rfl) | exact rfl) (hk : OkG prog fn (genF tys fn tbl hs dr dp) := by exact ⟨_, rfl, by kernel_rfl, by kernel_rfl⟩)
    (h0 : cmpR prog fn.results.toList = some (rvG tys fn.results.toList) := by kernel_rfl) (hr : rvG tys fn.results.toList = rvs := by cbv) (hn : Nat.ble av.length fn.ntmps = true := by kernel_rfl) (has : Nat.ble av.length 199 = true := by rfl)
    (hok2 : ∀ a ∈ av, argOk a := by first | (simp [argOk, aT, aI, aS]; done) | (simp [argOk, go_sem]; done)) : LayX prog f av cells := by
  obtain ⟨cc, g1, g2, g3⟩ := hk
  subst hcc
  subst hr
  rw [hc tbl] at g2 g3
  exact LayX.of_code hf g1 g2 g3 h0 (Nat.le_of_ble_eq_true hn) (Nat.lt_succ_of_le (Nat.le_of_ble_eq_true has)) hok2 k
end Go.H
end
section
set_option linter.unusedVariables false
set_option linter.unusedSimpArgs false
namespace Go.H
open Go
theorem noShR_RV (xs : List RVp) : T.noShR (xs.map eRV) = True := noShR_map _ (fun _ => by simp [eRV, T.noShL, T.noSh]) xs
attribute [go_sem] noShR_RV
theorem turned_ver (c : Config) (x : Cmd) : (turned c x).2.version = c.version := by
  unfold turned turnV turnB
  repeat' split
  all_goals rfl
theorem mkL_take {α : Type} (f : α → Int → α) (s : α → Int → Int) (xs : List α) (k : Int) : List.take xs.length (mkL f s xs k) = mkL f s xs k := List.take_of_length_le (by rw [mkL_length]; exact Nat.le_refl _)
theorem flat_Se (xs : List Session) : ∀ r ∈ xs.map eSession, ∀ t ∈ r, t.flat = true := by
  intro r hr t ht
  simp only [List.mem_map] at hr
  obtain ⟨x, _, rfl⟩ := hr
  simp only [eSession, List.mem_cons, List.not_mem_nil, or_false] at ht
  rcases ht with rfl | rfl | rfl <;> rfl
def cmdZero (c : Cmd) : Bool := decide (c.kind = 0) && (decide (c.expect = 0) && (decide (c.name = 0) && (decide (c.addr = 0) && (decide (c.number = 0) && decide (c.proto = 0)))))
def entryFault (x : Entry) : Int :=
  if !inR x.term 1 100000 || !inR x.client 0 999 || !inR x.seq 0 1000000 then 3 else
  if decide (x.client = 0) ≠ decide (x.seq = 0) then 1 else
  if x.client ≠ 0 then cmdFault x.cmd else
  if !cmdZero x.cmd then 1 else 0
def isSe (s : Session) : Bool := inR s.client 1 999 && inR s.seq 1 1000000 && inR s.code 0 10
def seBad (xs : List Session) (i : Nat) : Int := if isSe (xs.getD i zSession) = false then 3 else if 0 < i ∧ (xs.getD i zSession).client ≤ (xs.getD (i - 1) zSession).client then 1 else 0
def machineFault (m : Machine) : Int := if configFault m.config ≠ 0 then configFault m.config else if 40 < m.sessions.length then 2 else scan (seBad m.sessions) m.sessions.length 0
def isSes (c : Int) (s : Session) : Bool := decide (s.client = c)
def seAt (xs : List Session) (c : Int) : Int := idxG (isSes c) xs
def ltS (c : Int) (s : Session) : Bool := decide (s.client < c)
def lbS (xs : List Session) (c : Int) : Nat := preG (ltS c) xs
def hasS (xs : List Session) (c : Int) : Bool := decide (lbS xs c < xs.length) && decide ((xs.getD (lbS xs c) zSession).client = c)
def risesS (xs : List Session) : Prop := ∀ i, 0 < i → i < xs.length → (xs.getD (i - 1) zSession).client < (xs.getD i zSession).client
structure MaOk (m : Machine) : Prop where
  cf : CfOk m.config
  s40 : m.sessions.length ≤ 40
  se : ∀ i, i < m.sessions.length → isSe (m.sessions.getD i zSession) = true
  rs : risesS m.sessions
theorem ma_ok {m : Machine} (h : machineFault m = 0) : configFault m.config = 0 ∧ MaOk m := by
  unfold machineFault at h
  split at h
  · rename_i g; exact absurd h g
  rename_i g1
  have g1 : configFault m.config = 0 := by omega
  split at h
  · cases h
  rename_i g2
  have B : ∀ i, i < m.sessions.length → isSe (m.sessions.getD i zSession) = true ∧ ¬ (0 < i ∧ (m.sessions.getD i zSession).client ≤ (m.sessions.getD (i - 1) zSession).client) := by
    intro i hi
    have := scan_zero.1 h i (by omega) hi
    unfold seBad at this
    split at this
    · cases this
    rename_i e1
    split at this
    · cases this
    rename_i e2
    exact ⟨by simpa using e1, e2⟩
  exact ⟨g1, cf_ok g1, by omega, fun i hi => (B i hi).1, fun i h0 hi => by have := (B i hi).2; omega⟩
theorem ma_fault {m : Machine} (h0 : configFault m.config = 0) (K : MaOk m) : machineFault m = 0 := by
  unfold machineFault
  rw [if_neg (by omega), if_neg (by have := K.s40; omega), scan_zero]
  intro j _ hj
  unfold seBad
  rw [if_neg (by rw [K.se j hj]; simp), if_neg]
  rintro ⟨h1, h2⟩
  have := K.rs j h1 hj
  omega
theorem risesS_lt {xs : List Session} (h : risesS xs) {i : Nat} : ∀ {j : Nat}, i < j → j < xs.length → (xs.getD i zSession).client < (xs.getD j zSession).client
  | 0, h1, _ => by omega
  | j + 1, h1, h2 => by
    have e := h (j + 1) (by omega) h2
    simp only [Nat.add_sub_cancel] at e
    by_cases hij : i = j
    · subst hij; exact e
    · have := risesS_lt h (i := i) (j := j) (by omega) (by omega)
      omega
theorem lbS_le (xs : List Session) (c : Int) : lbS xs c ≤ xs.length := preG_le ..
theorem lbS_lt {xs : List Session} {c : Int} {i : Nat} (h : i < lbS xs c) : (xs.getD i zSession).client < c := by
  have := preG_lt zSession h
  simpa only [ltS, decide_eq_true_eq] using this
theorem lbS_at {xs : List Session} {c : Int} (h : lbS xs c < xs.length) : c ≤ (xs.getD (lbS xs c) zSession).client := by
  have : ltS c (xs.getD (lbS xs c) zSession) = false := preG_at zSession h
  simp only [ltS, decide_eq_false_iff_not] at this
  omega
theorem lbS_eq {xs : List Session} {c : Int} {i : Nat} (h : i ≤ xs.length) (h1 : ∀ p, p < i → (xs.getD p zSession).client < c) (h2 : i < xs.length → c ≤ (xs.getD i zSession).client) : lbS xs c = i :=
  preG_eq zSession h (fun q hq => by simpa only [ltS, decide_eq_true_eq] using h1 q hq) (fun hi => by have := h2 hi; simp only [ltS, decide_eq_false_iff_not]; omega)
theorem seAt_eq {xs : List Session} (hr : risesS xs) (c : Int) : seAt xs c = if hasS xs c = true then (lbS xs c : Int) else -1 := by
  cases h : hasS xs c with
  | true =>
    simp only [hasS, Bool.and_eq_true, decide_eq_true_eq] at h
    rw [if_pos rfl]
    exact idxG_some zSession h.1 (fun j hj => by have := lbS_lt hj; simp only [isSes, decide_eq_false_iff_not]; omega) (by simpa only [isSes, decide_eq_true_eq] using h.2)
  | false =>
    rw [if_neg (by simp)]
    refine idxG_none zSession fun j hj => ?_
    simp only [isSes, decide_eq_false_iff_not]
    intro e
    have hl : lbS xs c = j := lbS_eq (by omega) (fun p hp => by have := risesS_lt hr hp hj; omega) (fun _ => by omega)
    simp only [hasS, hl, hj, e, decide_true, Bool.and_self] at h
    cases h
def stepP (s : Session) (a : Bool × List Session) (y : Session) : Bool × List Session :=
  (a.1 || decide (s.client ≤ y.client), a.2 ++ (if a.1 = false ∧ s.client ≤ y.client then [s] else []) ++ (if y.client ≠ s.client then [y] else []))
def foldP (xs : List Session) (s : Session) (i : Nat) : Bool × List Session := (xs.take i).foldl (stepP s) (false, [])
def putL (xs : List Session) (s : Session) : List Session := if (foldP xs s xs.length).1 = true then (foldP xs s xs.length).2 else (foldP xs s xs.length).2 ++ [s]
theorem foldP_zero (xs : List Session) (s : Session) : foldP xs s 0 = (false, []) := rfl
theorem foldP_succ {xs : List Session} (s : Session) {i : Nat} (h : i < xs.length) : foldP xs s (i + 1) = stepP s (foldP xs s i) (xs.getD i zSession) := by
  unfold foldP
  rw [take_snoc zSession h, List.foldl_append]
  rfl
theorem foldP_len (xs : List Session) (s : Session) : ∀ i, (foldP xs s i).2.length ≤ 2 * i
  | 0 => by simp [foldP]
  | i + 1 => by
    by_cases h : i < xs.length
    · rw [foldP_succ s h]
      have := foldP_len xs s i
      unfold stepP
      simp only [List.length_append]
      have e1 : (if (foldP xs s i).1 = false ∧ s.client ≤ (xs.getD i zSession).client then [s] else []).length ≤ 1 := by split <;> simp
      have e2 : (if (xs.getD i zSession).client ≠ s.client then [xs.getD i zSession] else []).length ≤ 1 := by split <;> simp
      omega
    · have e : foldP xs s (i + 1) = foldP xs s i := by unfold foldP; rw [List.take_of_length_le (by omega), List.take_of_length_le (by omega)]
      rw [e]
      have := foldP_len xs s i
      omega
def putS (xs : List Session) (s : Session) : List Session := xs.take (lbS xs s.client) ++ s :: xs.drop (if hasS xs s.client = true then lbS xs s.client + 1 else lbS xs s.client)
def putR (s : Session) : Bool → List Session → List Session
  | d, [] => if d = true then [] else [s]
  | d, y :: ys => (if d = false ∧ s.client ≤ y.client then [s] else []) ++ (if y.client ≠ s.client then [y] else []) ++ putR s (d || decide (s.client ≤ y.client)) ys
theorem putR_fold (s : Session) : ∀ (ys : List Session) (a : Bool × List Session), (if (ys.foldl (stepP s) a).1 = true then (ys.foldl (stepP s) a).2 else (ys.foldl (stepP s) a).2 ++ [s]) = a.2 ++ putR s a.1 ys
  | [], a => by
    show (if a.1 = true then a.2 else a.2 ++ [s]) = a.2 ++ (if a.1 = true then [] else [s])
    split <;> simp
  | y :: ys, a => by
    have := putR_fold s ys (stepP s a y)
    rw [putR]
    refine this.trans ?_
    simp only [stepP, List.append_assoc]
theorem putL_R (xs : List Session) (s : Session) : putL xs s = putR s false xs := by
  unfold putL foldP
  rw [List.take_of_length_le (Nat.le_refl _)]
  simpa using putR_fold s xs (false, [])
theorem putR_true {s : Session} : ∀ {ys : List Session}, (∀ y ∈ ys, y.client ≠ s.client) → putR s true ys = ys
  | [], _ => rfl
  | y :: ys, h => by
    rw [putR, if_neg (by simp), if_pos (h y (by simp)), Bool.true_or, putR_true fun z hz => h z (by simp [hz])]
    rfl
theorem risesS_tail {y : Session} {ys : List Session} (h : risesS (y :: ys)) : risesS ys ∧ ∀ z ∈ ys, y.client < z.client := by
  refine ⟨fun i h0 hi => ?_, fun z hz => ?_⟩
  · have := h (i + 1) (by omega) (by simpa using hi)
    obtain ⟨k, rfl⟩ : ∃ k, i = k + 1 := ⟨i - 1, by omega⟩
    simpa using this
  · obtain ⟨j, hj, rfl⟩ := List.getElem_of_mem hz
    have := risesS_lt h (i := 0) (j := j + 1) (by omega) (by simpa using hj)
    simp only [List.getD_cons_zero, List.getD_cons_succ] at this
    rwa [List.getD_eq_getElem?_getD, List.getElem?_eq_getElem hj, Option.getD_some] at this
theorem lbS_cons_lt {y : Session} {ys : List Session} {c : Int} (h : y.client < c) : lbS (y :: ys) c = lbS ys c + 1 := by
  unfold lbS preG
  rw [List.takeWhile_cons_of_pos (by simpa [ltS] using h)]
  rfl
theorem lbS_cons_ge {y : Session} {ys : List Session} {c : Int} (h : c ≤ y.client) : lbS (y :: ys) c = 0 := by
  unfold lbS preG
  rw [List.takeWhile_cons_of_neg (by simp [ltS]; omega)]
  rfl
theorem hasS_cons_lt {y : Session} {ys : List Session} {c : Int} (h : y.client < c) : hasS (y :: ys) c = hasS ys c := by
  unfold hasS
  rw [lbS_cons_lt h]
  simp
theorem putL_eq (s : Session) : ∀ {xs : List Session}, risesS xs → putL xs s = putS xs s
  | [], _ => by
    rw [putL_R]
    unfold putS
    simp [putR]
  | y :: ys, h => by
    obtain ⟨h1, h2⟩ := risesS_tail h
    have ih := putL_eq s h1
    rw [putL_R] at ih ⊢
    rw [putR]
    rcases Int.lt_trichotomy y.client s.client with e | e | e
    · rw [if_neg (by omega), if_pos (by omega)]
      have : (false || decide (s.client ≤ y.client)) = false := by simp; omega
      rw [this, ih]
      unfold putS
      rw [lbS_cons_lt e, hasS_cons_lt e]
      split <;> simp
    · rw [if_pos ⟨rfl, by omega⟩, if_neg (by omega)]
      have : (false || decide (s.client ≤ y.client)) = true := by simp; omega
      rw [this, putR_true fun z hz => by have := h2 z hz; omega]
      have e0 : lbS (y :: ys) s.client = 0 := lbS_cons_ge (by omega)
      have e1 : hasS (y :: ys) s.client = true := by unfold hasS; rw [e0]; simp [e]
      unfold putS
      rw [e0, e1]
      simp
    · rw [if_pos ⟨rfl, by omega⟩, if_pos (by omega)]
      have : (false || decide (s.client ≤ y.client)) = true := by simp; omega
      rw [this, putR_true fun z hz => by have := h2 z hz; omega]
      have e0 : lbS (y :: ys) s.client = 0 := lbS_cons_ge (by omega)
      have e1 : hasS (y :: ys) s.client = false := by unfold hasS; rw [e0]; simp; omega
      unfold putS
      rw [e0, e1]
      simp
theorem putS_len (xs : List Session) (s : Session) : (putS xs s).length ≤ xs.length + 1 := by
  have := lbS_le xs s.client
  unfold putS
  split <;> simp <;> omega
def badM (k : Int) : MachineResult := ⟨k, 0, false, zMachine⟩
def oldM (m : Machine) (x : Entry) : Bool := hasS m.sessions x.client && decide (x.seq ≤ (m.sessions.getD (lbS m.sessions x.client) zSession).seq)
def enterM (m : Machine) (x : Entry) : MachineResult :=
  if x.client = 0 then ⟨0, 0, false, m⟩ else
  if oldM m x = true then ⟨0, if (m.sessions.getD (lbS m.sessions x.client) zSession).seq = x.seq then (m.sessions.getD (lbS m.sessions x.client) zSession).code else 9, false, m⟩ else
  if hasS m.sessions x.client = false ∧ 40 ≤ m.sessions.length then badM 2 else
  ⟨0, (applyR m.config x.cmd).code, true, ⟨if (applyR m.config x.cmd).code = 0 then (applyR m.config x.cmd).config else m.config, putS m.sessions ⟨x.client, x.seq, (applyR m.config x.cmd).code⟩⟩⟩
def applyEntry (m : Machine) (x : Entry) : MachineResult :=
  if machineFault m ≠ 0 then badM (machineFault m) else if entryFault x ≠ 0 then badM (entryFault x) else enterM m x
def limM (b : Nat) (m : Machine) : Prop := limG b m.config ∧ m.sessions.length ≤ b
theorem enterM_lim {b : Nat} {m : Machine} (h : limM b m) (x : Entry) : limM (b + 1) (enterM m x).machine := by
  have hm : limM (b + 1) m := ⟨limG_mono (by omega) h.1, Nat.le_succ_of_le h.2⟩
  have hz : limM (b + 1) zMachine := ⟨zConfig_lim _, by simp [zMachine]⟩
  unfold enterM
  repeat' split
  · exact hm
  · exact hm
  · exact hm
  · exact hz
  · refine ⟨applyR_lim h.1 x.cmd, ?_⟩
    have := putS_len m.sessions ⟨x.client, x.seq, (applyR m.config x.cmd).code⟩
    have := h.2
    show (putS _ _).length ≤ _
    omega
  · refine ⟨hm.1, ?_⟩
    have := putS_len m.sessions ⟨x.client, x.seq, (applyR m.config x.cmd).code⟩
    have := h.2
    show (putS _ _).length ≤ _
    omega
theorem applyEntry_lim {b : Nat} {m : Machine} (h : limM b m) (x : Entry) : limM (b + 1) (applyEntry m x).machine := by
  have hz : limM (b + 1) zMachine := ⟨zConfig_lim _, by simp [zMachine]⟩
  unfold applyEntry
  repeat' split
  · exact hz
  · exact hz
  · exact enterM_lim h x
def szMachine (x : Machine) (l : Int) : Int := szT (szConfig x.config l) fun l => szT (szL x.sessions.length l) fun l => l
theorem szMachine_lim {x : Machine} {l : Int} (h : 0 ≤ szMachine x l) (hl : l ≤ 1048576) : limM 1048576 x := by
  unfold szMachine at h
  obtain ⟨a1, a2, _⟩ := szT_ge h
  obtain ⟨b1, b2, _⟩ := szT_ge a2
  have h2 := (szConfig_lo x.config l hl).2
  have e1 := szL_ge b1
  exact ⟨szConfig_lim a1 hl, by omega⟩
def mSe (_ : Session) (k : Int) : Session := ⟨k, k + 1, k + 1 + 1⟩
def sSe (_ : Session) (k : Int) : Int := k + 1 + 1 + 1
theorem sSe_up (x : Session) (k : Int) : k ≤ sSe x k := by unfold sSe; omega
def mM (x : Machine) (k : Int) : Machine := ⟨mG x.config k, mkL mSe sSe x.sessions (sG x.config k)⟩
def sM (x : Machine) (k : Int) : Int := mkK sSe x.sessions (sG x.config k)
theorem sM_up (x : Machine) (k : Int) : k ≤ sM x k := by
  have h1 := sG_up x.config k
  have h2 := mkK_mono sSe_up x.sessions (sG x.config k)
  unfold sM; omega
theorem mkSe_bd (xs : List Session) (k : Int) : mkK sSe xs k ≤ k + 3 * xs.length := mkK_bd (by omega) fun x _ k => by unfold sSe; omega
theorem sM_bd {x : Machine} (hx : limM 2097152 x) {k : Int} (hk : k ≤ 4000000000000000000) : sM x k ≤ k + 4398200000000 := by
  have h1 := sG_bd hx.1 hk
  have h2 := mkSe_bd x.sessions (sG x.config k)
  have h3 := hx.2
  unfold sM
  omega
theorem seAt_ge {xs : List Session} (hr : risesS xs) (c : Int) : (0 ≤ seAt xs c ↔ hasS xs c = true) ∧ (hasS xs c = true → seAt xs c = lbS xs c) := by
  rw [seAt_eq hr]
  cases hasS xs c <;> simp
theorem old_at {m : Machine} (hr : risesS m.sessions) (x : Entry) : (decide (0 ≤ seAt m.sessions x.client) && decide (x.seq ≤ (m.sessions.getD (seAt m.sessions x.client).toNat zSession).seq)) = oldM m x := by
  obtain ⟨h1, h2⟩ := seAt_ge hr x.client
  unfold oldM
  cases h : hasS m.sessions x.client with
  | true =>
    have e := h2 h
    rw [e]
    simp
  | false =>
    have : ¬ 0 ≤ seAt m.sessions x.client := by rw [h1, h]; simp
    simp [this]
theorem hasS_lt {xs : List Session} {c : Int} (h : hasS xs c = true) : lbS xs c < xs.length := by
  simp only [hasS, Bool.and_eq_true, decide_eq_true_eq] at h
  exact h.1
theorem putS_has {xs : List Session} {s : Session} (h : hasS xs s.client = true) : (xs.map eSession).set (lbS xs s.client) (eSession s) = (putS xs s).map eSession := by
  have hl := hasS_lt h
  unfold putS
  rw [if_pos h, List.set_eq_take_append_cons_drop, if_pos (by simpa using hl)]
  simp
theorem ent_cmd {x : Entry} (h : entryFault x = 0) (hc : x.client ≠ 0) : cmdFault x.cmd = 0 := by
  unfold entryFault at h
  grind
theorem zMachine_ok : MaOk zMachine := ⟨cf_ok (by rfl), by simp [zMachine], fun i h => by simp [zMachine] at h, fun i _ h => by simp [zMachine] at h⟩
def freshM (r : MachineResult) : Bool := r.fresh && decide (r.reply = 0)
def addC (al : List Config) (r : MachineResult) : List Config := if freshM r = true then al ++ [r.machine.config] else al
def repR : List Entry → Machine → Int → List Config → MachineResult × List Config
  | [], m, rp, al => (⟨0, rp, false, m⟩, al)
  | x :: xs, m, rp, al =>
    if entryFault x ≠ 0 then (badM (entryFault x), []) else
    if (enterM m x).code ≠ 0 then (badM (enterM m x).code, []) else
    repR xs (enterM m x).machine (enterM m x).reply (addC al (enterM m x))
def replayM (xs : List Entry) : MachineResult × List Config := if 200 < xs.length then (badM 2, []) else repR xs zMachine 0 [zConfig]
theorem repR_drop {xs : List Entry} {i : Nat} (h : i < xs.length) (m : Machine) (rp : Int) (al : List Config) :
    repR (xs.drop i) m rp al = if entryFault (xs.getD i zEntry) ≠ 0 then (badM (entryFault (xs.getD i zEntry)), []) else
      if (enterM m (xs.getD i zEntry)).code ≠ 0 then (badM (enterM m (xs.getD i zEntry)).code, []) else
      repR (xs.drop (i + 1)) (enterM m (xs.getD i zEntry)).machine (enterM m (xs.getD i zEntry)).reply (addC al (enterM m (xs.getD i zEntry))) := by
  rw [drop_getD zEntry h, repR]
theorem repR_end (xs : List Entry) (m : Machine) (rp : Int) (al : List Config) : repR (xs.drop xs.length) m rp al = (⟨0, rp, false, m⟩, al) := by
  rw [List.drop_length, repR]
theorem enterM_code (m : Machine) (x : Entry) : (enterM m x).code = 0 ∨ enterM m x = badM 2 := by
  unfold enterM
  repeat' split
  · exact .inl rfl
  · exact .inl rfl
  · exact .inl rfl
  · exact .inr rfl
  · exact .inl rfl
  · exact .inl rfl
theorem enterM_bad {m : Machine} {x : Entry} (h : (enterM m x).code ≠ 0) : enterM m x = badM (enterM m x).code := by
  rcases enterM_code m x with h1 | h1
  · exact absurd h1 h
  · rw [h1]; rfl
theorem addC_len (al : List Config) (r : MachineResult) : (addC al r).length ≤ al.length + 1 := by
  unfold addC
  split <;> simp
structure MaP (m : Machine) : Prop where
  cf : configFault m.config = 0
  ok : MaOk m
  lim : limM 1048576 m
theorem pw_of {α : Type} (z : α) {R : α → α → Prop} (tr : ∀ a b c, R a b → R b c → R a c) : ∀ {xs : List α}, (∀ i, 0 < i → i < xs.length → R (xs.getD (i - 1) z) (xs.getD i z)) → xs.Pairwise R
  | [], _ => List.Pairwise.nil
  | [x], _ => by simp
  | x :: y :: ys, h => by
    have ih : (y :: ys).Pairwise R := pw_of z tr fun i h0 hi => by
      have := h (i + 1) (by omega) (by simpa using hi)
      obtain ⟨k, rfl⟩ : ∃ k, i = k + 1 := ⟨i - 1, by omega⟩
      simpa using this
    have hxy : R x y := by simpa using h 1 (by omega) (by simp)
    rw [List.pairwise_cons]
    refine ⟨fun w hw => ?_, ih⟩
    rcases List.mem_cons.1 hw with rfl | hw
    · exact hxy
    · exact tr _ _ _ hxy ((List.pairwise_cons.1 ih).1 w hw)
theorem of_pw {α : Type} (z : α) {R : α → α → Prop} {xs : List α} (h : xs.Pairwise R) (i : Nat) (h0 : 0 < i) (hi : i < xs.length) : R (xs.getD (i - 1) z) (xs.getD i z) := by
  rw [List.getD_eq_getElem?_getD, List.getD_eq_getElem?_getD, List.getElem?_eq_getElem hi, List.getElem?_eq_getElem (show i - 1 < xs.length by omega)]
  exact List.pairwise_iff_getElem.1 h (i - 1) i (by omega) hi (by omega)
theorem pw_put {α : Type} {R : α → α → Prop} {xs : List α} {b : α} {k : Nat} (h : xs.Pairwise R) (h1 : ∀ y ∈ xs.take k, R y b) (h2 : ∀ y ∈ xs.drop k, R b y) : (xs.take k ++ [b] ++ xs.drop k).Pairwise R := by
  have e : (xs.take k ++ xs.drop k).Pairwise R := by rw [List.take_append_drop]; exact h
  obtain ⟨p1, p2, p3⟩ := List.pairwise_append.1 e
  rw [List.append_assoc, List.pairwise_append]
  refine ⟨p1, ?_, fun a ha c hc => ?_⟩
  · rw [List.singleton_append, List.pairwise_cons]
    exact ⟨h2, p2⟩
  · rw [List.singleton_append] at hc
    rcases List.mem_cons.1 hc with rfl | hc
    · exact h1 a ha
    · exact p3 a ha c hc
theorem pw_cut {α : Type} {R : α → α → Prop} {xs : List α} (i : Nat) (h : xs.Pairwise R) : (cutG xs i).Pairwise R := by
  have e : (xs.take i ++ xs.drop i).Pairwise R := by rw [List.take_append_drop]; exact h
  obtain ⟨p1, p2, p3⟩ := List.pairwise_append.1 e
  unfold cutG
  have hs : (xs.drop (i + 1)).Sublist (xs.drop i) := by
    rw [← List.drop_drop]
    exact List.drop_sublist 1 _
  rw [List.pairwise_append]
  exact ⟨p1, p2.sublist hs, fun a ha c hc => p3 a ha c (hs.subset hc)⟩
theorem mem_getD {α : Type} (z : α) {xs : List α} {y : α} : y ∈ xs ↔ ∃ i, i < xs.length ∧ xs.getD i z = y := by
  constructor
  · intro h
    obtain ⟨j, hj, rfl⟩ := List.getElem_of_mem h
    exact ⟨j, hj, by rw [List.getD_eq_getElem?_getD, List.getElem?_eq_getElem hj, Option.getD_some]⟩
  · rintro ⟨i, hi, rfl⟩
    exact getD_mem z hi
theorem mem_preG {α : Type} {p : α → Bool} {xs : List α} {y : α} (h : y ∈ xs.take (preG p xs)) : p y = true := by
  unfold preG at h
  have e : xs.take (xs.takeWhile p).length = xs.takeWhile p := by
    obtain ⟨t, ht⟩ := List.takeWhile_prefix (p := p) (l := xs)
    conv => lhs; arg 2; rw [← ht]
    exact List.take_left' rfl
  rw [e] at h
  exact (List.all_takeWhile (p := p) (l := xs)) |> fun h2 => (List.all_eq_true.1 h2) _ h
theorem mem_drop_getD {α : Type} (z : α) {xs : List α} {k : Nat} {y : α} (h : y ∈ xs.drop k) : ∃ q, k ≤ q ∧ q < xs.length ∧ xs.getD q z = y := by
  obtain ⟨j, hj, rfl⟩ := List.getElem_of_mem h
  have hj2 : k + j < xs.length := by simp at hj; omega
  exact ⟨k + j, by omega, hj2, by rw [List.getD_eq_getElem?_getD, List.getElem?_eq_getElem hj2, Option.getD_some, ← List.getElem_drop (h := hj)]⟩
theorem findB_mem {bs : List Backend} {n : Int} : 0 ≤ findB bs n ↔ ∃ b ∈ bs, b.name = n := by
  unfold findB
  constructor
  · intro h
    obtain ⟨i, _, h2, h3, _⟩ := idxG_lt zBackend (q := isB n) (xs := bs) (by omega)
    exact ⟨_, getD_mem zBackend h2, by simpa [isB] using h3⟩
  · rintro ⟨b, hb, rfl⟩
    rcases idxG_cases zBackend (isB b.name) bs with ⟨h1, h2⟩ | ⟨i, h1, _⟩
    · obtain ⟨j, hj, e⟩ := (mem_getD zBackend).1 hb
      have := h2 j hj
      rw [e] at this
      simp [isB] at this
    · rw [h1]; omega
structure CfP (c : Config) : Prop where
  v0 : 0 ≤ c.version
  v1 : c.version ≤ 1000000
  b8 : c.backends.length ≤ 8
  v4 : c.vips.length ≤ 4
  bk : ∀ b ∈ c.backends, isBk b = true
  br : c.backends.Pairwise fun a b => a.name < b.name
  vp : ∀ v ∈ c.vips, isVp v = true
  vr : c.vips.Pairwise fun a b => behV a b = true
  nb : ∀ v ∈ c.vips, ∀ n ∈ v.names, ∃ b ∈ c.backends, b.name = n
  nr : ∀ v ∈ c.vips, v.names.Pairwise fun a b => a < b
theorem cf_p {c : Config} (K : CfOk c) : CfP c where
  v0 := K.v0
  v1 := K.v1
  b8 := K.b8
  v4 := K.v4
  bk b hb := by obtain ⟨i, hi, rfl⟩ := (mem_getD zBackend).1 hb; exact K.bk i hi
  br := pw_of (R := fun a b => a.name < b.name) zBackend (fun _ _ _ h1 h2 => Int.lt_trans h1 h2) K.br
  vp v hv := by obtain ⟨i, hi, rfl⟩ := (mem_getD zVip).1 hv; exact K.vp i hi
  vr := pw_of (R := fun a b => behV a b = true) zVip (fun _ _ _ h1 h2 => behV_trans h1 h2) K.vr
  nb v hv n hn := by
    obtain ⟨i, hi, rfl⟩ := (mem_getD zVip).1 hv
    have := K.nb i hi
    obtain ⟨j, hj, rfl⟩ := (mem_getD zI_i64).1 hn
    rcases idxG_cases zI_i64 (noB c.backends) (c.vips.getD i zVip).names with ⟨_, h2⟩ | ⟨k, h1, _⟩
    · have h3 := h2 j hj
      simp only [noB, decide_eq_false_iff_not] at h3
      exact findB_mem.1 (by omega)
    · simp only [hasG, h1, decide_eq_false_iff_not] at this
      omega
  nr v hv := by obtain ⟨i, hi, rfl⟩ := (mem_getD zVip).1 hv; exact pw_of (R := fun a b => a < b) zI_i64 (fun _ _ _ h1 h2 => Int.lt_trans h1 h2) (K.nr i hi)
theorem p_fault {c : Config} (K : CfP c) : configFault c = 0 := by
  have hv : inR c.version 0 1000000 = true := by
    have := K.v0; have := K.v1
    simp [inR]; omega
  have hb : scan (bkBad c.backends) c.backends.length 0 = 0 := by
    rw [scan_zero]
    intro j _ hj
    unfold bkBad
    rw [if_neg (by rw [K.bk _ (getD_mem zBackend hj)]; simp), if_neg]
    rintro ⟨h1, h2⟩
    have := of_pw zBackend K.br j h1 hj
    omega
  unfold configFault
  rw [if_neg (by rw [hv]; simp), if_neg (by have := K.b8; have := K.v4; omega), if_neg (by omega), scan_zero]
  intro i _ hi
  have hm := getD_mem zVip hi
  unfold vipBad
  rw [if_neg (by rw [K.vp _ hm]; simp), if_neg, if_neg]
  · rw [nmBad_zero]
    exact fun j h0 hj => of_pw zI_i64 (K.nr _ hm) j h0 hj
  · rw [hasG_false zI_i64 fun j hj => ?_]
    · simp
    · have := findB_mem.2 (K.nb _ hm _ (getD_mem zI_i64 hj))
      simp only [noB, decide_eq_false_iff_not]
      omega
  · rintro ⟨h1, h2⟩
    have := of_pw zVip K.vr i h1 hi
    rw [this] at h2
    cases h2
theorem pw_set {α : Type} (z : α) {R : α → α → Prop} {xs : List α} {i : Nat} {b : α} (h : xs.Pairwise R) (h1 : ∀ y, R y (xs.getD i z) → R y b) (h2 : ∀ y, R (xs.getD i z) y → R b y) : (xs.set i b).Pairwise R := by
  rw [List.pairwise_iff_getElem] at h ⊢
  intro p q hp hq hpq
  have hp' : p < xs.length := by simpa using hp
  have hq' : q < xs.length := by simpa using hq
  have := h p q hp' hq' hpq
  have e : ∀ (hi : i < xs.length), xs.getD i z = xs[i] := fun hi => by rw [List.getD_eq_getElem?_getD, List.getElem?_eq_getElem hi, Option.getD_some]
  rw [List.getElem_set, List.getElem_set]
  split
  · rename_i e1
    subst e1
    rw [if_neg (by omega)]
    exact h2 _ (by rw [e hp']; exact this)
  · split
    · rename_i e1
      subst e1
      exact h1 _ (by rw [e hq']; exact this)
    · exact this
theorem mem_set_of {α : Type} (z : α) {xs : List α} {i : Nat} {b y : α} (h : y ∈ xs) : y = xs.getD i z ∧ i < xs.length ∧ b ∈ xs.set i b ∨ y ∈ xs.set i b := by
  obtain ⟨j, hj, rfl⟩ := (mem_getD z).1 h
  by_cases e : j = i
  · subst e
    exact .inl ⟨rfl, hj, List.mem_iff_getElem.2 ⟨j, by simpa using hj, by simp⟩⟩
  · refine .inr (List.mem_iff_getElem.2 ⟨j, by simpa using hj, ?_⟩)
    rw [List.getElem_set_ne (fun h => e h.symm), List.getD_eq_getElem?_getD, List.getElem?_eq_getElem hj, Option.getD_some]
theorem cutG_of {α : Type} (z : α) {xs : List α} {i j : Nat} (hj : j < xs.length) (h : j ≠ i) : xs.getD j z ∈ cutG xs i := by
  unfold cutG
  rw [List.getD_eq_getElem?_getD, List.getElem?_eq_getElem hj, Option.getD_some, List.mem_append]
  rcases Nat.lt_or_gt_of_ne h with h | h
  · exact .inl (List.mem_take_iff_getElem.2 ⟨j, by omega, rfl⟩)
  · refine .inr (List.mem_drop_iff_getElem.2 ⟨j - (i + 1), by omega, ?_⟩)
    congr 1
    omega
theorem putG_old {α : Type} {p : α → Bool} {xs : List α} {b y : α} (h : y ∈ xs) : y ∈ putG p xs b := by
  unfold putG
  rw [← List.take_append_drop (preG p xs) xs] at h
  rcases List.mem_append.1 h with h | h
  · exact List.mem_append.2 (.inl (List.mem_append.2 (.inl h)))
  · exact List.mem_append.2 (.inr h)
theorem cmd_facts {x : Cmd} (h : cmdFault x = 0) : inR x.kind 1 9 = true ∧ (nd1 x.kind = true → inR x.name 1 999 = true) ∧ (nd2 x.kind = true → inR x.addr 0 4294967295 = true) ∧ (nd3 x.kind = true → isNum x = true) ∧ (nd4 x.kind = true → isPro x.proto = true) := by
  unfold cmdFault at h
  split at h
  · cases h
  rename_i h1
  split at h
  · cases h
  rename_i h2
  simp only [Bool.not_eq_true', Bool.not_eq_false, Bool.or_eq_true, Bool.and_eq_true, not_or, not_and] at h1 h2
  obtain ⟨⟨⟨⟨_, a1⟩, a2⟩, a3⟩, a4⟩ := h2
  exact ⟨h1, fun h => by simpa using a1 h, fun h => by simpa using a2 h, fun h => by simpa using a3 h, fun h => by simpa using a4 h⟩
theorem setB_p {c : Config} (P : CfP c) {i : Nat} {b : Backend} (hn : b.name = (c.backends.getD i zBackend).name) (hb : isBk b = true) : CfP (setB c i b) where
  v0 := P.v0
  v1 := P.v1
  b8 := by simpa [setB] using P.b8
  v4 := P.v4
  bk y hy := by
    rcases List.mem_or_eq_of_mem_set hy with h | h
    · exact P.bk y h
    · rw [h]; exact hb
  br := pw_set zBackend P.br (fun y h => by rw [hn]; exact h) (fun y h => by rw [hn]; exact h)
  vp := P.vp
  vr := P.vr
  nb v hv n hnm := by
    obtain ⟨y, hy, e⟩ := P.nb v hv n hnm
    rcases mem_set_of zBackend (i := i) (b := b) hy with ⟨h1, _, h3⟩ | h
    · exact ⟨b, h3, by rw [hn, ← h1]; exact e⟩
    · exact ⟨y, h, e⟩
  nr := P.nr
theorem bAt_lt {c : Config} {n : Int} (h : ¬ findB c.backends n < 0) : bAt c n < c.backends.length ∧ (c.backends.getD (bAt c n) zBackend).name = n := by
  obtain ⟨i, h1, h2, h3, _⟩ := idxG_lt zBackend h
  have e : bAt c n = i := by unfold bAt findB; rw [h1]; rfl
  rw [e]
  exact ⟨h2, by simpa [isB] using h3⟩
theorem turnB_p {c : Config} (K : CfOk c) {x : Cmd} (hf : cmdFault x = 0) (hk : x.kind = 1 ∨ x.kind = 2 ∨ x.kind = 3 ∨ x.kind = 4 ∨ x.kind = 9) : CfP (turnB c x).2 := by
  have P := cf_p K
  obtain ⟨f1, f2, f3, f4, _⟩ := cmd_facts hf
  have g2 : inR x.name 1 999 = true := f2 (by unfold nd1 inR; simp; omega)
  unfold turnB
  split
  · rename_i k1
    split
    · exact P
    split
    · exact P
    rename_i h1 h2
    have g3 := f3 (by unfold nd2; simp [k1])
    have g4 := f4 (by unfold nd3; simp [k1])
    have g5 : inR x.number 0 9 = true := by simpa [isNum, k1] using g4
    obtain ⟨q1, q2, q3, q4⟩ := put_b K (x := x) (by omega)
    refine ⟨P.v0, P.v1, by show (putG _ _ _).length ≤ 8; rw [putG_len]; omega, P.v4, fun y hy => ?_, ?_, P.vp, P.vr, fun v hv n hn => ?_, P.nr⟩
    · rcases putG_mem hy with h | h
      · exact P.bk y h
      · rw [h]; unfold isBk bOf; simp [g2, g3, g5]; decide
    · show (putG _ _ _).Pairwise _
      refine pw_put P.br (fun y hy => ?_) (fun y hy => ?_)
      · simpa [ltB, bOf] using mem_preG hy
      · obtain ⟨q, h3, h4, rfl⟩ := mem_drop_getD zBackend hy
        exact (cmpB_lt _ _).1 (q2 q h3 h4)
    · obtain ⟨y, hy, e⟩ := P.nb v hv n hn
      exact ⟨y, putG_old hy, e⟩
  split
  · exact P
  rename_i k1 hfb
  obtain ⟨a1, a2⟩ := bAt_lt hfb
  have hb := P.bk _ (getD_mem zBackend a1)
  simp only [isBk, Bool.and_eq_true] at hb
  split
  · rename_i k2
    have g4 := f4 (by unfold nd3; simp [k2])
    have g5 : inR x.number 0 9 = true := by simpa [isNum, k2] using g4
    exact setB_p P rfl (by unfold isBk; simp [-List.getD_eq_getElem?_getD, hb, g5])
  split
  · rename_i k2 k3
    have g4 := f4 (by unfold nd3; simp [k3])
    have g5 : inR x.number 1 3 = true := by simpa [isNum, k3] using g4
    exact setB_p P rfl (by unfold isBk; simp [-List.getD_eq_getElem?_getD, hb, g5])
  split
  · exact setB_p P rfl (by unfold isBk; simp [-List.getD_eq_getElem?_getD, hb])
  split
  · exact P
  split
  · exact P
  rename_i hs
  refine ⟨P.v0, P.v1, by have := cutG_len c.backends (bAt c x.name); have := P.b8; show (cutG _ _).length ≤ 8; omega, P.v4, fun y hy => P.bk y (cutG_mem hy), pw_cut _ P.br, P.vp, P.vr, fun v hv n hn => ?_, P.nr⟩
  obtain ⟨y, hy, e⟩ := P.nb v hv n hn
  obtain ⟨j, hj, rfl⟩ := (mem_getD zBackend).1 hy
  refine ⟨_, cutG_of zBackend hj fun e2 => hs ?_, e⟩
  subst e2
  rw [a2] at e
  subst e
  obtain ⟨i, hi, rfl⟩ := (mem_getD zVip).1 hv
  obtain ⟨k, hk, ek⟩ := (mem_getD zI_i64).1 hn
  exact hasG_true zVip hi (hasG_true zI_i64 hk (by simpa [eqI] using ek))
theorem vAt_lt {c : Config} {x : Cmd} (h : ¬ findV c.vips x.addr x.number x.proto < 0) : vAt c x < c.vips.length := by
  obtain ⟨i, h1, h2, _⟩ := idxG_lt zVip h
  have e : vAt c x = i := by unfold vAt findV; rw [h1]; rfl
  rw [e]
  exact h2
theorem setV_p {c : Config} (P : CfP c) {i : Nat} (hi : i < c.vips.length) {ns : List Int} (h1 : ∀ n ∈ ns, ∃ b ∈ c.backends, b.name = n) (h2 : ns.Pairwise fun a b => a < b) : CfP (setV c i { c.vips.getD i zVip with names := ns }) where
  v0 := P.v0
  v1 := P.v1
  b8 := P.b8
  v4 := by simpa [setV] using P.v4
  bk := P.bk
  br := P.br
  vp y hy := by
    rcases List.mem_or_eq_of_mem_set hy with h | h
    · exact P.vp y h
    · rw [h]
      have := P.vp _ (getD_mem zVip hi)
      exact this
  vr := pw_set zVip P.vr (fun y h => h) (fun y h => h)
  nb v hv := by
    rcases List.mem_or_eq_of_mem_set hv with h | h
    · exact P.nb v h
    · rw [h]; exact h1
  nr v hv := by
    rcases List.mem_or_eq_of_mem_set hv with h | h
    · exact P.nr v h
    · rw [h]; exact h2
theorem riseL_mem {xs : List Int} {v n : Int} (h : n ∈ riseL xs v) : n ∈ xs ∨ n = v := by
  unfold riseL at h
  split at h
  · exact .inl h
  · rcases List.mem_append.1 h with h | h
    · rcases List.mem_append.1 h with h | h
      · exact .inl (List.mem_of_mem_take h)
      · exact .inr (by simpa using h)
    · exact .inl (List.mem_of_mem_drop h)
theorem riseL_pw {xs : List Int} {v : Int} (hp : xs.Pairwise fun a b => a < b) : (riseL xs v).Pairwise fun a b => a < b := by
  unfold riseL
  split
  · exact hp
  rename_i hh
  have hr : rises xs := fun i h0 hi => of_pw zI_i64 hp i h0 hi
  refine pw_put hp (fun y hy => ?_) (fun y hy => ?_)
  · have : y ∈ xs.take (preG (fun x => decide (x < v)) xs) := hy
    simpa using mem_preG this
  · obtain ⟨q, h1, h2, rfl⟩ := mem_drop_getD zI_i64 hy
    have hlt : lbn xs v < xs.length := by omega
    have hat : (decide (xs.getD (lbn xs v) zI_i64 < v)) = false := preG_at zI_i64 (p := fun x => decide (x < v)) (xs := xs) hlt
    simp only [decide_eq_false_iff_not] at hat
    have hne : xs.getD (lbn xs v) zI_i64 ≠ v := fun e => hh (by simp only [hasI, Bool.and_eq_true, decide_eq_true_eq]; exact ⟨by omega, e⟩)
    by_cases e : q = lbn xs v
    · subst e; omega
    · have := rises_lt hr (i := lbn xs v) (j := q) (by omega) h2
      omega
theorem turnV_p {c : Config} (K : CfOk c) {x : Cmd} (hf : cmdFault x = 0) (hk : x.kind = 5 ∨ x.kind = 6 ∨ x.kind = 7 ∨ x.kind = 8) : CfP (turnV c x).2 := by
  have P := cf_p K
  obtain ⟨f1, f2, f3, f4, f5⟩ := cmd_facts hf
  have g3 := f3 (by unfold nd2 inR; simp; omega)
  have g5 := f5 (by unfold nd4 inR; simp; omega)
  unfold turnV
  split
  · rename_i k1
    split
    · exact P
    split
    · exact P
    rename_i h1 h2
    have g4 := f4 (by unfold nd3; simp [k1])
    have g6 : inR x.number 0 65535 = true := by simpa [isNum, k1] using g4
    obtain ⟨q1, q2, q3, q4⟩ := put_v K (x := x) (by omega)
    refine ⟨P.v0, P.v1, P.b8, by show (putG _ _ _).length ≤ 4; rw [putG_len]; omega, P.bk, P.br, fun y hy => ?_, ?_, fun v hv => ?_, fun v hv => ?_⟩
    · rcases putG_mem hy with h | h
      · exact P.vp y h
      · rw [h]; unfold isVp vOf; simp [g3, g5, g6]
    · show (putG _ _ _).Pairwise _
      refine pw_put P.vr (fun y hy => ?_) (fun y hy => ?_)
      · exact (mem_preG hy : ltV (vOf x) y = true)
      · obtain ⟨q, h3, h4, rfl⟩ := mem_drop_getD zVip hy
        exact (cmpV_neg _ _).1 (q2 q h3 h4)
    · rcases putG_mem hv with h | h
      · exact P.nb v h
      · rw [h]; intro n hn; simp [vOf] at hn
    · rcases putG_mem hv with h | h
      · exact P.nr v h
      · rw [h]; simp [vOf]
  split
  · exact P
  rename_i k1 hfv
  have hv := vAt_lt hfv
  have hm := getD_mem zVip hv
  split
  · exact ⟨P.v0, P.v1, P.b8, by have := cutG_len c.vips (vAt c x); have := P.v4; show (cutG _ _).length ≤ 4; omega, P.bk, P.br, fun y hy => P.vp y (cutG_mem hy), pw_cut _ P.vr, fun v hv => P.nb v (cutG_mem hv), fun v hv => P.nr v (cutG_mem hv)⟩
  split
  · split
    · exact P
    split
    · exact P
    rename_i hfb _
    refine setV_p P hv (fun n hn => ?_) (riseL_pw (P.nr _ hm))
    rcases riseL_mem hn with h | h
    · exact P.nb _ hm n h
    · rw [h]; exact findB_mem.1 (by omega)
  split
  · exact P
  exact setV_p P hv (fun n hn => P.nb _ hm n (cutG_mem hn)) (pw_cut _ (P.nr _ hm))
theorem applyR_p {c : Config} (K : CfOk c) {x : Cmd} (hf : cmdFault x = 0) (h : (applyR c x).code = 0) : CfP (applyR c x).config := by
  have hk := (cmd_facts hf).1
  simp only [inR, Bool.and_eq_true, decide_eq_true_eq] at hk
  have P : CfP (turned c x).2 := by
    unfold turned
    split
    · rename_i hi
      simp only [inR, Bool.and_eq_true, decide_eq_true_eq] at hi
      exact turnV_p K hf (by omega)
    · rename_i hi
      simp only [inR, Bool.and_eq_true, decide_eq_true_eq] at hi
      exact turnB_p K hf (by omega)
  have h0 := K.v0
  have h1 := K.v1
  unfold applyR at h ⊢
  split at h
  · cases h
  rename_i e1
  split at h
  · cases h
  rename_i e2
  split at h
  · rename_i e3; exact absurd h e3
  rename_i e3
  rw [if_neg e1, if_neg e2, if_neg e3]
  exact ⟨by show 0 ≤ c.version + 1; omega, by show c.version + 1 ≤ 1000000; omega, P.b8, P.v4, P.bk, P.br, P.vp, P.vr, P.nb, P.nr⟩
theorem applyR_code (c : Config) (x : Cmd) : 0 ≤ (applyR c x).code ∧ (applyR c x).code ≤ 10 := by
  have ht : 0 ≤ (turned c x).1 ∧ (turned c x).1 ≤ 10 := by
    unfold turned turnV turnB
    repeat' split
    all_goals (dsimp only; omega)
  unfold applyR
  repeat' split
  all_goals first
    | exact ht
    | (simp [badC]; done)
    | (simp; done)
theorem pw_len {lo hi : Int} : ∀ {xs : List Int}, xs.Pairwise (fun a b => a < b) → (∀ n ∈ xs, lo ≤ n ∧ n ≤ hi) → lo ≤ hi + 1 → (xs.length : Int) ≤ hi + 1 - lo
  | [], _, _, h => by simp; omega
  | y :: ys, hp, hm, h => by
    obtain ⟨p1, p2⟩ := List.pairwise_cons.1 hp
    have hy := hm y (by simp)
    have := pw_len (lo := y + 1) (hi := hi) p2 (fun n hn => ⟨by have := p1 n hn; omega, (hm n (by simp [hn])).2⟩) (by omega)
    simp only [List.length_cons, Int.natCast_add]
    omega
theorem cf_lim {c : Config} (P : CfP c) : limG 1048576 c := by
  refine ⟨by have := P.b8; omega, by have := P.v4; omega, fun v hv => ?_⟩
  have := pw_len (lo := 1) (hi := 999) (P.nr v hv) (fun n hn => by
    obtain ⟨b, hb, rfl⟩ := P.nb v hv n hn
    have := P.bk b hb
    simp only [isBk, inR, Bool.and_eq_true, decide_eq_true_eq] at this
    omega) (by omega)
  unfold limV
  omega
theorem putS_mem {xs : List Session} {s y : Session} (h : y ∈ putS xs s) : y ∈ xs ∨ y = s := by
  unfold putS at h
  rcases List.mem_append.1 h with h | h
  · exact .inl (List.mem_of_mem_take h)
  · rcases List.mem_cons.1 h with h | h
    · exact .inr h
    · exact .inl (List.mem_of_mem_drop h)
theorem putS_rises {xs : List Session} (hr : risesS xs) (s : Session) : risesS (putS xs s) := by
  have hp : xs.Pairwise fun a b => a.client < b.client := pw_of (R := fun a b => a.client < b.client) zSession (fun _ _ _ h1 h2 => Int.lt_trans h1 h2) hr
  have hlo : ∀ y ∈ xs.take (lbS xs s.client), y.client < s.client := fun y hy => by simpa [ltS] using mem_preG (p := ltS s.client) hy
  have e : (xs.take (lbS xs s.client) ++ xs.drop (lbS xs s.client)).Pairwise fun a b => a.client < b.client := by rw [List.take_append_drop]; exact hp
  obtain ⟨p1, p2, p3⟩ := List.pairwise_append.1 e
  have key : (putS xs s).Pairwise fun a b => a.client < b.client := by
    unfold putS
    split
    · rename_i hh
      have hl := hasS_lt hh
      have he : (xs.getD (lbS xs s.client) zSession).client = s.client := by
        simp only [hasS, Bool.and_eq_true, decide_eq_true_eq] at hh
        exact hh.2
      rw [drop_getD zSession hl] at p2 p3
      obtain ⟨p4, p5⟩ := List.pairwise_cons.1 p2
      rw [List.pairwise_append, List.pairwise_cons]
      refine ⟨p1, ⟨fun y hy => by rw [← he]; exact p4 y hy, p5⟩, fun a ha c hc => ?_⟩
      rcases List.mem_cons.1 hc with rfl | hc
      · exact hlo a ha
      · exact p3 a ha c (by simp [hc])
    · rename_i hh
      rw [List.pairwise_append, List.pairwise_cons]
      refine ⟨p1, ⟨fun y hy => ?_, p2⟩, fun a ha c hc => ?_⟩
      · obtain ⟨q, h1, h2, rfl⟩ := mem_drop_getD zSession hy
        have h3 := lbS_at (xs := xs) (c := s.client) (by omega)
        have hne : (xs.getD (lbS xs s.client) zSession).client ≠ s.client := fun e => hh (by simp only [hasS, Bool.and_eq_true, decide_eq_true_eq]; exact ⟨by omega, e⟩)
        by_cases e : q = lbS xs s.client
        · subst e; omega
        · have := risesS_lt hr (i := lbS xs s.client) (j := q) (by omega) h2
          omega
      · rcases List.mem_cons.1 hc with rfl | hc
        · exact hlo a ha
        · exact p3 a ha c hc
  exact fun i h0 hi => of_pw zSession key i h0 hi
theorem putS_length {xs : List Session} (s : Session) : (putS xs s).length = if hasS xs s.client = true then xs.length else xs.length + 1 := by
  have h0 := lbS_le xs s.client
  unfold putS
  split
  · rename_i h
    have := hasS_lt h
    simp
    omega
  · simp
    omega
theorem maP_zero : MaP zMachine := ⟨by rfl, zMachine_ok, zConfig_lim _, by simp [zMachine]⟩
theorem enterM_p {m : Machine} (P : MaP m) {x : Entry} (hx : entryFault x = 0) (hc : (enterM m x).code = 0) : MaP (enterM m x).machine := by
  have K := P.ok
  unfold enterM at hc ⊢
  split at hc
  · rename_i h; rw [if_pos h]; exact P
  rename_i h1
  split at hc
  · rename_i h; rw [if_neg h1, if_pos h]; exact P
  rename_i h2
  split at hc
  · cases hc
  rename_i h3
  rw [if_neg h1, if_neg h2, if_neg h3]
  have hcf := ent_cmd hx h1
  have hce := applyR_code m.config x.cmd
  have hxx : inR x.client 0 999 = true ∧ inR x.seq 0 1000000 = true ∧ (decide (x.client = 0) = decide (x.seq = 0)) := by
    unfold entryFault at hx
    grind
  obtain ⟨x1, x2, x3⟩ := hxx
  have x3 : x.seq ≠ 0 := fun e => h1 (by simpa [e] using x3)
  simp only [inR, Bool.and_eq_true, decide_eq_true_eq] at x1 x2
  have cfp : CfP (if (applyR m.config x.cmd).code = 0 then (applyR m.config x.cmd).config else m.config) := by
    split
    · rename_i h; exact applyR_p K.cf hcf h
    · exact cf_p K.cf
  have hf := p_fault cfp
  have hlen : (putS m.sessions ⟨x.client, x.seq, (applyR m.config x.cmd).code⟩).length ≤ 40 := by
    rw [putS_length]
    have := K.s40
    split
    · omega
    · rename_i h
      have h4 : hasS m.sessions x.client = false := by simpa using h
      have : ¬ 40 ≤ m.sessions.length := fun h5 => h3 ⟨h4, h5⟩
      omega
  refine ⟨hf, ⟨cf_ok hf, hlen, fun i hi => ?_, putS_rises K.rs _⟩, cf_lim cfp, Nat.le_trans hlen (by omega)⟩
  rcases putS_mem (getD_mem zSession hi) with h | h
  · obtain ⟨j, hj, e⟩ := (mem_getD zSession).1 h
    rw [← e]
    exact K.se j hj
  · rw [h]
    simp [isSe, inR]
    omega
def mC (x : Cmd) (k : Int) : Cmd := ⟨k, k + 1, k + 1 + 1, k + 1 + 1 + 1, k + 1 + 1 + 1 + 1, k + 1 + 1 + 1 + 1 + 1⟩
def mE (x : Entry) (k : Int) : Entry := ⟨k, k + 1, k + 1 + 1, mC x.cmd (k + 1 + 1 + 1)⟩
def sE (_ : Entry) (k : Int) : Int := k + 1 + 1 + 1 + 1 + 1 + 1 + 1 + 1 + 1
theorem sE_up (x : Entry) (k : Int) : k ≤ sE x k := by unfold sE; omega
theorem mkE_bd (xs : List Entry) (k : Int) : mkK sE xs k ≤ k + 9 * xs.length := mkK_bd (by omega) fun x _ k => by unfold sE; omega
def sC (_ : Cmd) (k : Int) : Int := k + 1 + 1 + 1 + 1 + 1 + 1
theorem sC_up (x : Cmd) (k : Int) : k ≤ sC x k := by unfold sC; omega
theorem mkC_bd (xs : List Cmd) (k : Int) : mkK sC xs k ≤ k + 6 * xs.length := mkK_bd (by omega) fun x _ k => by unfold sC; omega
theorem limM_mono {a b : Nat} (h : a ≤ b) {x : Machine} (hx : limM a x) : limM b x := ⟨limG_mono h hx.1, Nat.le_trans hx.2 h⟩
theorem replay_lim (xs : List Entry) : limM 1048577 (replayM xs).1.machine := by
  have hz : limM 1048577 zMachine := ⟨zConfig_lim _, by simp [zMachine]⟩
  have key : ∀ (xs : List Entry) (m : Machine) (rp : Int) (al : List Config), MaP m → limM 1048577 (repR xs m rp al).1.machine := by
    intro xs
    induction xs with
    | nil => intro m rp al P; exact ⟨limG_mono (by omega) P.lim.1, Nat.le_succ_of_le P.lim.2⟩
    | cons x xs ih =>
      intro m rp al P
      rw [repR]
      split
      · exact hz
      split
      · exact hz
      · rename_i h1 h2
        exact ih _ _ _ (enterM_p P (by omega) (by omega))
  unfold replayM
  split
  · exact hz
  · exact key _ _ _ _ maP_zero
def stepsR : List Cmd → Config → ConfigResult
  | [], c => ⟨0, c⟩
  | x :: xs, c => if cmdFault x ≠ 0 then badC (cmdFault x) else if (applyR c x).code ≠ 0 then badC (applyR c x).code else stepsR xs (applyR c x).config
theorem stepsR_drop {xs : List Cmd} {i : Nat} (h : i < xs.length) (c : Config) :
    stepsR (xs.drop i) c = if cmdFault (xs.getD i zCmd) ≠ 0 then badC (cmdFault (xs.getD i zCmd)) else if (applyR c (xs.getD i zCmd)).code ≠ 0 then badC (applyR c (xs.getD i zCmd)).code else stepsR (xs.drop (i + 1)) (applyR c (xs.getD i zCmd)).config := by
  rw [drop_getD zCmd h, stepsR]
theorem stepsR_end (xs : List Cmd) (c : Config) : stepsR (xs.drop xs.length) c = ⟨0, c⟩ := by rw [List.drop_length, stepsR]
theorem applyR_bad {c : Config} {x : Cmd} (h : (applyR c x).code ≠ 0) : applyR c x = badC (applyR c x).code := by
  unfold applyR at h ⊢
  repeat' split at h
  all_goals first
    | (rename_i h1; rw [if_pos h1]; rfl)
    | skip
  · rename_i h1 h2; rw [if_neg h1, if_pos h2]; rfl
  · rename_i h1 h2 h3; rw [if_neg h1, if_neg h2, if_pos h3]; rfl
  · rename_i h1 h2 h3; exact absurd rfl h
def badU (k : Int) : UpdateResult := ⟨k, zUpdate⟩
def badW (k : Int) : WatchResult := ⟨k, zWatch⟩
def stepU (c : Config) (xs : List Cmd) : UpdateResult :=
  if configFault c ≠ 0 then badU (configFault c) else if 20 < xs.length then badU 2 else
  if (stepsR xs c).code ≠ 0 then badU (stepsR xs c).code else ⟨0, ⟨c.version, (stepsR xs c).config.version, false, zConfig, xs⟩⟩
def cfgZero (c : Config) : Bool := decide (c.version = 0) && (decide (c.backends.length = 0) && decide (c.vips.length = 0))
def cmdBad (xs : List Cmd) (i : Nat) : Int := cmdFault (xs.getD i zCmd)
def updateFault (u : Update) : Int :=
  if !inR u.from_ 0 1000000 || !inR u.to_ 0 1000000 then 3 else
  if u.full = true then
    if u.from_ ≠ 0 ∨ 0 < u.cmds.length then 1 else
    if configFault u.config ≠ 0 then configFault u.config else if u.config.version ≠ u.to_ then 1 else 0
  else if cfgZero u.config = false then 1 else
  if 20 < u.cmds.length then 2 else
  if u.to_ - u.from_ ≠ u.cmds.length then 1 else scan (cmdBad u.cmds) u.cmds.length 0
def watchFault (w : Watch) : Int := if configFault w.config ≠ 0 then configFault w.config else if w.ready = false ∧ cfgZero w.config = false then 1 else 0
def takeW (w : Watch) (u : Update) : WatchResult :=
  if u.full = true then
    if w.ready = true ∧ u.to_ ≤ w.config.version then badW 9 else ⟨0, ⟨true, u.config⟩⟩
  else if w.ready = false then badW 10 else
  if u.to_ ≤ w.config.version then badW 9 else
  if u.from_ ≠ w.config.version then badW 4 else
  if (stepsR u.cmds w.config).code ≠ 0 then badW (stepsR u.cmds w.config).code else ⟨0, ⟨true, (stepsR u.cmds w.config).config⟩⟩
def takeU (w : Watch) (u : Update) : WatchResult :=
  if watchFault w ≠ 0 then badW (watchFault w) else if updateFault u ≠ 0 then badW (updateFault u) else takeW w u
theorem watch_cf {w : Watch} (h : watchFault w = 0) : configFault w.config = 0 := by
  unfold watchFault at h
  split at h
  · rename_i g; exact absurd h g
  · omega
theorem upd_cf {u : Update} (h : updateFault u = 0) (hf : u.full = true) : configFault u.config = 0 := by
  unfold updateFault at h
  grind
theorem cf_l {c : Config} (h : configFault c = 0) : limG 1048576 c := cf_lim (cf_p (cf_ok h))
theorem steps_cf : ∀ {xs : List Cmd} {c : Config}, configFault c = 0 → (stepsR xs c).code = 0 → configFault (stepsR xs c).config = 0
  | [], c, h, _ => h
  | x :: xs, c, h, hc => by
    rw [stepsR] at hc ⊢
    split at hc
    · rename_i h1; exact absurd hc h1
    split at hc
    · rename_i h1 h2; exact absurd hc h2
    rename_i h1 h2
    rw [if_neg h1, if_neg h2]
    exact steps_cf (p_fault (applyR_p (cf_ok h) (by omega) (by omega))) hc
theorem steps_bad : ∀ {xs : List Cmd} {c : Config}, (stepsR xs c).code ≠ 0 → stepsR xs c = badC (stepsR xs c).code
  | [], c, h => absurd rfl h
  | x :: xs, c, h => by
    rw [stepsR] at h ⊢
    split
    · rfl
    split
    · rfl
    rename_i h1 h2
    rw [if_neg h1, if_neg h2] at h
    exact steps_bad h
theorem steps_lim {xs : List Cmd} {c : Config} (h : configFault c = 0) : limG 1048576 (stepsR xs c).config := by
  by_cases hc : (stepsR xs c).code = 0
  · exact cf_l (steps_cf h hc)
  · rw [steps_bad hc]; exact zConfig_lim _
def limU (b : Nat) (u : Update) : Prop := limG b u.config ∧ u.cmds.length ≤ b
theorem stepU_lim {c : Config} {xs : List Cmd} {b : Nat} (h : xs.length ≤ b) : limU b (stepU c xs).update := by
  have hz : limU b zUpdate := ⟨zConfig_lim _, by simp [zUpdate]⟩
  unfold stepU
  repeat' split
  · exact hz
  · exact hz
  · exact hz
  · exact ⟨zConfig_lim _, h⟩
theorem takeW_cf {w : Watch} {u : Update} (hw : watchFault w = 0) (hu : updateFault u = 0) (h : (takeW w u).code = 0) : watchFault (takeW w u).watch = 0 := by
  have k1 := watch_cf hw
  unfold takeW at h ⊢
  split at h
  · rename_i e1
    rw [if_pos e1]
    split at h
    · cases h
    rename_i e2
    rw [if_neg e2]
    have := upd_cf hu e1
    unfold watchFault
    simp [this]
  rename_i e1
  rw [if_neg e1]
  split at h
  · cases h
  rename_i e2
  split at h
  · cases h
  rename_i e3
  split at h
  · cases h
  rename_i e4
  split at h
  · rename_i e5; exact absurd h e5
  rename_i e5
  rw [if_neg e2, if_neg e3, if_neg e4, if_neg e5]
  have := steps_cf k1 (xs := u.cmds) (by omega)
  unfold watchFault
  simp [this]
theorem takeW_lim {w : Watch} {u : Update} (hw : watchFault w = 0) (hu : updateFault u = 0) : limG 1048576 (takeW w u).watch.config := by
  have k1 := watch_cf hw
  unfold takeW
  split
  · rename_i e1
    split
    · exact zConfig_lim _
    · exact cf_l (upd_cf hu e1)
  repeat' split
  · exact zConfig_lim _
  · exact zConfig_lim _
  · exact zConfig_lim _
  · exact zConfig_lim _
  · exact steps_lim k1
theorem takeU_lim (w : Watch) (u : Update) : limG 1048576 (takeU w u).watch.config := by
  unfold takeU
  split
  · exact zConfig_lim _
  split
  · exact zConfig_lim _
  · exact takeW_lim (by omega) (by omega)
def szUpdate (x : Update) (l : Int) : Int := szT (szConfig x.config l) fun l => szT (szL x.cmds.length l) fun l => l
theorem szUpdate_lo (x : Update) (l : Int) (h : l ≤ 1048576) : -1 ≤ szUpdate x l ∧ szUpdate x l ≤ 1048576 :=
  ⟨szT_lo fun _ => szT_lo fun _ => szL_lo .., szT_hi (by omega) (szT_hi (by omega) (szL_hi (szConfig_lo x.config l h).2 (by omega)))⟩
theorem szUpdate_lim {x : Update} {l : Int} (h : 0 ≤ szUpdate x l) (hl : l ≤ 1048576) : limU 1048576 x := by
  unfold szUpdate at h
  obtain ⟨a1, a2, _⟩ := szT_ge h
  obtain ⟨b1, b2, _⟩ := szT_ge a2
  have h2 := (szConfig_lo x.config l hl).2
  have e1 := szL_ge b1
  exact ⟨szConfig_lim a1 hl, by omega⟩
def szWatch (x : Watch) (l : Int) : Int := szT (szConfig x.config l) fun l => l
theorem szWatch_eq (x : Watch) (l : Int) (h : l ≤ 1048576) : szWatch x l = szConfig x.config l := by
  have := (szConfig_lo x.config l h).1
  unfold szWatch szT
  split
  · omega
  · rfl
def mU (x : Update) (k : Int) : Update := ⟨x.from_, x.to_, x.full, mG x.config k, mkL mC sC x.cmds (sG x.config k)⟩
def sU (x : Update) (k : Int) : Int := mkK sC x.cmds (sG x.config k)
theorem sU_up (x : Update) (k : Int) : k ≤ sU x k := by
  have h1 := sG_up x.config k
  have h2 := mkK_mono sC_up x.cmds (sG x.config k)
  unfold sU; omega
theorem sU_bd {x : Update} (hx : limU 2097152 x) {k : Int} (hk : k ≤ 4000000000000000000) : sU x k ≤ k + 4398200000000 := by
  have h1 := sG_bd hx.1 hk
  have h2 := mkC_bd x.cmds (sG x.config k)
  have h3 := hx.2
  unfold sU
  omega
theorem limU_mono {a b : Nat} (h : a ≤ b) {x : Update} (hx : limU a x) : limU b x := ⟨limG_mono h hx.1, Nat.le_trans hx.2 h⟩
def takeAll : List Update → Watch → Watch
  | [], w => w
  | u :: us, w => takeAll us (if (takeU w u).code = 0 then (takeU w u).watch else w)
def takeMany (w : Watch) (us : List Update) : WatchResult := if watchFault w ≠ 0 then badW (watchFault w) else if 40 < us.length then badW 2 else ⟨0, takeAll us w⟩
theorem takeAll_drop {us : List Update} {i : Nat} (h : i < us.length) (w : Watch) : takeAll (us.drop i) w = takeAll (us.drop (i + 1)) (if (takeU w (us.getD i zUpdate)).code = 0 then (takeU w (us.getD i zUpdate)).watch else w) := by
  rw [drop_getD zUpdate h, takeAll]
theorem takeAll_end (us : List Update) (w : Watch) : takeAll (us.drop us.length) w = w := by rw [List.drop_length, takeAll]
theorem takeU_ok {w : Watch} {u : Update} (hw : watchFault w = 0) (h : (takeU w u).code = 0) : watchFault (takeU w u).watch = 0 := by
  unfold takeU at h ⊢
  split at h
  · rename_i h1; exact absurd hw h1
  rename_i h1
  split at h
  · rename_i h2; exact absurd h h2
  rename_i h2
  rw [if_neg h1, if_neg h2]
  exact takeW_cf hw (by omega) h
theorem takeAll_ok : ∀ {us : List Update} {w : Watch}, watchFault w = 0 → watchFault (takeAll us w) = 0
  | [], w, h => h
  | u :: us, w, h => by
    rw [takeAll]
    refine takeAll_ok ?_
    split
    · rename_i h1; exact takeU_ok h h1
    · exact h
theorem takeMany_lim (w : Watch) (us : List Update) : limG 1048576 (takeMany w us).watch.config := by
  unfold takeMany
  split
  · exact zConfig_lim _
  split
  · exact zConfig_lim _
  · exact cf_l (watch_cf (takeAll_ok (by omega)))
def szUs : List Update → Int → Int
  | [], l => l
  | x :: xs, l => szT (szUpdate x l) (szUs xs)
def szUps (xs : List Update) (l : Int) : Int := szT (szL xs.length l) (szUs xs)
theorem szUs_lim : ∀ {xs : List Update} {l : Int}, 0 ≤ szUs xs l → l ≤ 1048576 → ∀ y ∈ xs, limU 1048576 y
  | [], _, _, _ => by simp
  | x :: xs, l, h, hl => by
    obtain ⟨a1, a2, _⟩ := szT_ge h
    have b1 := szUpdate_lim a1 hl
    intro y hy
    rcases List.mem_cons.1 hy with rfl | hy
    · exact b1
    · exact szUs_lim a2 (szUpdate_lo x l hl).2 y hy
theorem szUps_lim {xs : List Update} {l : Int} (h : 0 ≤ szUps xs l) (hl : l ≤ 1048576) : xs.length ≤ 1048576 ∧ ∀ y ∈ xs, limU 1048576 y := by
  unfold szUps at h
  obtain ⟨a1, a2, _⟩ := szT_ge h
  have e1 := szL_ge a1
  exact ⟨by omega, szUs_lim a2 (szL_hi hl (by omega))⟩
def mUs (x : Update) (k : Int) : Update :=
  ⟨k, k + 1, decide ((k + 1 + 1).tmod 3 = 0), ⟨k + 1 + 1 + 1, mkL mB sB x.config.backends (k + 1 + 1 + 1 + 1), mkL mV sV x.config.vips (mkK sB x.config.backends (k + 1 + 1 + 1 + 1))⟩,
    mkL mC sC x.cmds (mkK sV x.config.vips (mkK sB x.config.backends (k + 1 + 1 + 1 + 1)))⟩
def sUs (x : Update) (k : Int) : Int := mkK sC x.cmds (mkK sV x.config.vips (mkK sB x.config.backends (k + 1 + 1 + 1 + 1)))
theorem sUs_up (x : Update) (k : Int) : k ≤ sUs x k := by
  have h1 := mkK_mono sB_up x.config.backends (k + 1 + 1 + 1 + 1)
  have h2 := mkK_mono sV_up x.config.vips (mkK sB x.config.backends (k + 1 + 1 + 1 + 1))
  have h3 := mkK_mono sC_up x.cmds (mkK sV x.config.vips (mkK sB x.config.backends (k + 1 + 1 + 1 + 1)))
  unfold sUs; omega
theorem sUs_bd {x : Update} (hx : limU 1048576 x) (k : Int) : sUs x k ≤ k + 1099530000000 := by
  have h1 := mkB_bd x.config.backends (k + 1 + 1 + 1 + 1)
  have h2 := mkV_bd hx.1.2.2 (mkK sB x.config.backends (k + 1 + 1 + 1 + 1))
  have h3 := mkC_bd x.cmds (mkK sV x.config.vips (mkK sB x.config.backends (k + 1 + 1 + 1 + 1)))
  have h4 := hx.1.1
  have h5 := hx.1.2.1
  have h6 := hx.2
  have h7 : (((1048576 : Nat) : Int) + 3) * x.config.vips.length ≤ (((1048576 : Nat) : Int) + 3) * 1048576 := Int.mul_le_mul_of_nonneg_left (by omega) (by omega)
  unfold sUs
  omega
theorem mkU_bd {xs : List Update} (h : ∀ y ∈ xs, limU 1048576 y) (hl : xs.length ≤ 1048576) {k : Int} : mkK sUs xs k ≤ k + 1160000000000000000 := by
  have h1 : mkK sUs xs k ≤ k + 1099530000000 * xs.length := mkK_bd (by omega) fun x hx k => sUs_bd (h x hx) k
  omega
def mCf (x : Config) (k : Int) : Config := ⟨k, mkL mB sB x.backends (k + 1), mkL mV sV x.vips (mkK sB x.backends (k + 1))⟩
def sCf (x : Config) (k : Int) : Int := mkK sV x.vips (mkK sB x.backends (k + 1))
theorem sCf_up (x : Config) (k : Int) : k ≤ sCf x k := by
  have h1 := mkK_mono sB_up x.backends (k + 1)
  have h2 := mkK_mono sV_up x.vips (mkK sB x.backends (k + 1))
  unfold sCf; omega
theorem sCf_bd {x : Config} (hx : limG 1048577 x) (k : Int) : sCf x k ≤ k + 1099530000000 := by
  have h1 := mkB_bd x.backends (k + 1)
  have h2 := mkV_bd hx.2.2 (mkK sB x.backends (k + 1))
  have h4 := hx.1
  have h5 := hx.2.1
  have h7 : (((1048577 : Nat) : Int) + 3) * x.vips.length ≤ (((1048577 : Nat) : Int) + 3) * 1048577 := Int.mul_le_mul_of_nonneg_left (by omega) (by omega)
  unfold sCf
  omega
theorem mkCf_bd {xs : List Config} (h : ∀ y ∈ xs, limG 1048577 y) (hl : xs.length ≤ 1048576) {k : Int} : mkK sCf xs k ≤ k + 1160000000000000000 := by
  have h1 : mkK sCf xs k ≤ k + 1099530000000 * xs.length := mkK_bd (by omega) fun x hx k => sCf_bd (h x hx) k
  omega
def repA : List Entry → Machine → List Config → List Config
  | [], m, al => al
  | x :: xs, m, al => if entryFault x ≠ 0 then al else if (enterM m x).code ≠ 0 then al else repA xs (enterM m x).machine (addC al (enterM m x))
def replayA (xs : List Entry) : List Config := if 200 < xs.length then [zConfig] else repA xs zMachine [zConfig]
theorem repA_drop {xs : List Entry} {i : Nat} (h : i < xs.length) (m : Machine) (al : List Config) :
    repA (xs.drop i) m al = if entryFault (xs.getD i zEntry) ≠ 0 then al else if (enterM m (xs.getD i zEntry)).code ≠ 0 then al else repA (xs.drop (i + 1)) (enterM m (xs.getD i zEntry)).machine (addC al (enterM m (xs.getD i zEntry))) := by
  rw [drop_getD zEntry h, repA]
theorem repA_end (xs : List Entry) (m : Machine) (al : List Config) : repA (xs.drop xs.length) m al = al := by rw [List.drop_length, repA]
theorem repA_R : ∀ {xs : List Entry} {m : Machine} {rp : Int} {al : List Config}, (repR xs m rp al).1.code = 0 → (repR xs m rp al).2 = repA xs m al
  | [], _, _, _, _ => rfl
  | x :: xs, m, rp, al, h => by
    rw [repR] at h ⊢
    rw [repA]
    split at h
    · rename_i h1; exact absurd h h1
    split at h
    · rename_i h1 h2; exact absurd h h2
    rename_i h1 h2
    rw [if_neg h1, if_neg h2, if_neg h1, if_neg h2]
    exact repA_R h
theorem replayA_eq {xs : List Entry} (h : (replayM xs).1.code = 0) : (replayM xs).2 = replayA xs := by
  unfold replayM at h ⊢
  unfold replayA
  split at h
  · cases h
  · rename_i h1
    rw [if_neg h1, if_neg h1]
    exact repA_R h
theorem repR_lim : ∀ {xs : List Entry} {m : Machine} {rp : Int} {al : List Config}, MaP m → (∀ y ∈ al, limG 1048576 y) → (∀ y ∈ (repR xs m rp al).2, limG 1048576 y) ∧ (repR xs m rp al).2.length ≤ al.length + xs.length
  | [], m, rp, al, P, h => ⟨h, by simp [repR]⟩
  | x :: xs, m, rp, al, P, h => by
    rw [repR]
    split
    · exact ⟨by simp, by simp⟩
    split
    · exact ⟨by simp, by simp⟩
    rename_i h1 h2
    have P2 := enterM_p P (x := x) (by omega) (by omega)
    obtain ⟨a1, a2⟩ := repR_lim (xs := xs) (rp := (enterM m x).reply) (al := addC al (enterM m x)) P2 (fun y hy => by
      unfold addC at hy
      split at hy
      · rcases List.mem_append.1 hy with hy | hy
        · exact h y hy
        · rw [List.mem_singleton] at hy
          rw [hy]
          exact P2.lim.1
      · exact h y hy)
    have := addC_len al (enterM m x)
    exact ⟨a1, by simp only [List.length_cons]; omega⟩
theorem replay_al (xs : List Entry) : (∀ y ∈ (replayM xs).2, limG 1048576 y) ∧ (replayM xs).2.length ≤ 201 := by
  unfold replayM
  split
  · exact ⟨by simp, by simp⟩
  · rename_i h
    obtain ⟨a1, a2⟩ := repR_lim (xs := xs) (rp := 0) (al := [zConfig]) maP_zero (fun y hy => by rw [List.mem_singleton] at hy; rw [hy]; exact zConfig_lim _)
    simp only [List.length_singleton] at a2
    exact ⟨a1, by omega⟩
def versOf (xs : List Entry) : ConfigsResult := if (replayM xs).1.code ≠ 0 then ⟨(replayM xs).1.code, []⟩ else ⟨0, (replayM xs).2⟩
theorem vers_lim (xs : List Entry) : (∀ y ∈ (versOf xs).configs, limG 1048577 y) ∧ (versOf xs).configs.length ≤ 201 := by
  obtain ⟨a1, a2⟩ := replay_al xs
  unfold versOf
  split
  · exact ⟨by simp, by simp⟩
  · exact ⟨fun y hy => limG_mono (by omega) (a1 y hy), a2⟩
instance decBackend : DecidableEq Backend := fun a b =>
  if h : a.name = b.name ∧ a.address = b.address ∧ a.weight = b.weight ∧ a.stage = b.stage ∧ a.up = b.up then isTrue (by cases a; cases b; simp_all) else isFalse (fun e => h (by subst e; simp))
instance decVip : DecidableEq Vip := fun a b =>
  if h : a.address = b.address ∧ a.port = b.port ∧ a.proto = b.proto ∧ a.names = b.names then isTrue (by cases a; cases b; simp_all) else isFalse (fun e => h (by subst e; simp))
instance decConfig : DecidableEq Config := fun a b =>
  if h : a.version = b.version ∧ a.backends = b.backends ∧ a.vips = b.vips then isTrue (by cases a; cases b; simp_all) else isFalse (fun e => h (by subst e; simp))
theorem eq_backend {a b : Backend} : a = b ↔ (a.name = b.name ∧ a.address = b.address ∧ a.weight = b.weight ∧ a.stage = b.stage ∧ a.up = b.up) := ⟨fun e => by subst e; simp, fun h => by cases a; cases b; simp_all⟩
theorem eq_vip {a b : Vip} : a = b ↔ (a.address = b.address ∧ a.port = b.port ∧ a.proto = b.proto ∧ a.names = b.names) := ⟨fun e => by subst e; simp, fun h => by cases a; cases b; simp_all⟩
theorem eq_config {a b : Config} : a = b ↔ (a.version = b.version ∧ a.backends = b.backends ∧ a.vips = b.vips) := ⟨fun e => by subst e; simp, fun h => by cases a; cases b; simp_all⟩
def addK (cs : List Cmd) (x : Entry) (r : MachineResult) : List Cmd := if freshM r = true then cs ++ [x.cmd] else cs
def repC : List Entry → Machine → Int
  | [], _ => 0
  | x :: xs, m => if entryFault x ≠ 0 then entryFault x else if (enterM m x).code ≠ 0 then (enterM m x).code else repC xs (enterM m x).machine
def repS : List Entry → Machine → List Cmd → List Cmd
  | [], _, cs => cs
  | x :: xs, m, cs => if entryFault x ≠ 0 then cs else if (enterM m x).code ≠ 0 then cs else repS xs (enterM m x).machine (addK cs x (enterM m x))
def repK : List Entry → Machine → Nat → Nat
  | [], _, k => k
  | x :: xs, m, k => if entryFault x ≠ 0 then k else if (enterM m x).code ≠ 0 then k else repK xs (enterM m x).machine (k + 1)
def replayS (xs : List Entry) : List Cmd := if 200 < xs.length then [] else repS xs zMachine []
def replayK (xs : List Entry) : Nat := if 200 < xs.length then 0 else repK xs zMachine 0
theorem repC_drop {xs : List Entry} {i : Nat} (h : i < xs.length) (m : Machine) :
    repC (xs.drop i) m = if entryFault (xs.getD i zEntry) ≠ 0 then entryFault (xs.getD i zEntry) else if (enterM m (xs.getD i zEntry)).code ≠ 0 then (enterM m (xs.getD i zEntry)).code else repC (xs.drop (i + 1)) (enterM m (xs.getD i zEntry)).machine := by
  rw [drop_getD zEntry h, repC]
theorem repS_drop {xs : List Entry} {i : Nat} (h : i < xs.length) (m : Machine) (cs : List Cmd) :
    repS (xs.drop i) m cs = if entryFault (xs.getD i zEntry) ≠ 0 then cs else if (enterM m (xs.getD i zEntry)).code ≠ 0 then cs else repS (xs.drop (i + 1)) (enterM m (xs.getD i zEntry)).machine (addK cs (xs.getD i zEntry) (enterM m (xs.getD i zEntry))) := by
  rw [drop_getD zEntry h, repS]
theorem repK_drop {xs : List Entry} {i : Nat} (h : i < xs.length) (m : Machine) (k : Nat) :
    repK (xs.drop i) m k = if entryFault (xs.getD i zEntry) ≠ 0 then k else if (enterM m (xs.getD i zEntry)).code ≠ 0 then k else repK (xs.drop (i + 1)) (enterM m (xs.getD i zEntry)).machine (k + 1) := by
  rw [drop_getD zEntry h, repK]
theorem repS_end (xs : List Entry) (m : Machine) (cs : List Cmd) : repS (xs.drop xs.length) m cs = cs := by rw [List.drop_length, repS]
theorem repK_end (xs : List Entry) (m : Machine) (k : Nat) : repK (xs.drop xs.length) m k = k := by rw [List.drop_length, repK]
theorem addK_len (cs : List Cmd) (x : Entry) (r : MachineResult) : (addK cs x r).length ≤ cs.length + 1 := by
  unfold addK
  split <;> simp
theorem repR_code : ∀ {xs : List Entry} {m : Machine} {rp : Int} {al : List Config}, (repR xs m rp al).1.code = repC xs m
  | [], _, _, _ => rfl
  | x :: xs, m, rp, al => by
    rw [repR, repC]
    split
    · rfl
    split
    · rfl
    exact repR_code
theorem replay_code {xs : List Entry} (h : xs.length ≤ 200) : (replayM xs).1.code = repC xs zMachine := by
  unfold replayM
  rw [if_neg (by omega), repR_code]
theorem repA_S : ∀ {xs : List Entry} {m : Machine} {al : List Config} {cs : List Cmd}, al.length = cs.length + 1 → (repA xs m al).length = (repS xs m cs).length + 1
  | [], _, _, _, h => h
  | x :: xs, m, al, cs, h => by
    rw [repA, repS]
    split
    · exact h
    split
    · exact h
    refine repA_S ?_
    unfold addC addK
    split
    · simp [h]
    · exact h
theorem replayA_S (xs : List Entry) : (replayA xs).length = (replayS xs).length + 1 := by
  unfold replayA replayS
  split
  · rfl
  · exact repA_S rfl
theorem repA_le : ∀ {xs : List Entry} {m : Machine} {al : List Config}, (repA xs m al).length ≤ al.length + xs.length
  | [], _, _ => by simp [repA]
  | x :: xs, m, al => by
    rw [repA]
    split
    · omega
    split
    · omega
    have := repA_le (xs := xs) (m := (enterM m x).machine) (al := addC al (enterM m x))
    have := addC_len al (enterM m x)
    simp only [List.length_cons]
    omega
theorem repA_lim : ∀ {xs : List Entry} {m : Machine} {al : List Config}, MaP m → (∀ y ∈ al, limG 1048576 y) → ∀ y ∈ repA xs m al, limG 1048576 y
  | [], m, al, P, h => h
  | x :: xs, m, al, P, h => by
    rw [repA]
    split
    · exact h
    split
    · exact h
    rename_i h1 h2
    have P2 := enterM_p P (x := x) (by omega) (by omega)
    refine repA_lim P2 fun y hy => ?_
    unfold addC at hy
    split at hy
    · rcases List.mem_append.1 hy with hy | hy
      · exact h y hy
      · rw [List.mem_singleton] at hy
        rw [hy]
        exact P2.lim.1
    · exact h y hy
theorem replayA_lim (xs : List Entry) : (∀ y ∈ replayA xs, limG 1048576 y) ∧ (replayA xs).length ≤ 201 := by
  have hz : ∀ y ∈ [zConfig], limG 1048576 y := fun y hy => by rw [List.mem_singleton] at hy; rw [hy]; exact zConfig_lim _
  unfold replayA
  split
  · exact ⟨hz, by simp⟩
  · refine ⟨repA_lim maP_zero hz, ?_⟩
    have := repA_le (xs := xs) (m := zMachine) (al := [zConfig])
    simp only [List.length_singleton] at this
    omega
theorem replayS_len (xs : List Entry) : (replayS xs).length ≤ 200 := by
  have h1 := replayA_S xs
  have h2 := (replayA_lim xs).2
  omega
theorem cmpV_zero (a b : Vip) : decide (cmpV a b = 0) = (decide (a.address = b.address) && (decide (a.port = b.port) && decide (a.proto = b.proto))) := by
  unfold cmpV cmpI
  grind
theorem same_vip (a b : Vip) : decide (a = b) = (decide (cmpV a b = 0) && decide (a.names = b.names)) := by
  rw [cmpV_zero, Bool.eq_iff_iff]
  simp [eq_vip, and_assoc]
def verS (xs : List Entry) : List Cmd := if (replayM xs).1.code ≠ 0 then [] else replayS xs
theorem replay_bad {xs : List Entry} (h : (replayM xs).1.code ≠ 0) : (replayM xs).2 = [] := by
  have key : ∀ (xs : List Entry) (m : Machine) (rp : Int) (al : List Config), (repR xs m rp al).1.code ≠ 0 → (repR xs m rp al).2 = [] := by
    intro xs
    induction xs with
    | nil => intro m rp al h; exact absurd rfl h
    | cons x xs ih =>
      intro m rp al h
      rw [repR] at h ⊢
      split at h
      · rename_i h1; rw [if_pos h1]
      rename_i h1
      rw [if_neg h1]
      split at h
      · rename_i h2; rw [if_pos h2]
      rename_i h2
      rw [if_neg h2]
      exact ih _ _ _ h
  unfold replayM at h ⊢
  split
  · rfl
  · rename_i h1
    rw [if_neg h1] at h
    exact key _ _ _ _ h
theorem replay_len {xs : List Entry} (h : (replayM xs).1.code = 0) : (replayM xs).2.length = (replayS xs).length + 1 ∧ (replayM xs).2.length ≤ 201 := by
  rw [replayA_eq h]
  exact ⟨replayA_S xs, (replayA_lim xs).2⟩
theorem machineMa {m : Machine} (P : MaP m) : machineFault m = 0 := ma_fault P.cf P.ok
theorem replay_ok {xs : List Entry} (h : (replayM xs).1.code = 0) : xs.length ≤ 200 := by
  unfold replayM at h
  split at h
  · exact absurd h (by decide)
  · omega
theorem repC_ok {x : Entry} {m : Machine} {c d : Int} (h : c = if entryFault x ≠ 0 then entryFault x else if (enterM m x).code ≠ 0 then (enterM m x).code else d) (hc : c = 0) : entryFault x = 0 ∧ (enterM m x).code = 0 := by
  grind
theorem getD_lim {xs : List Config} {b : Nat} (h : ∀ y ∈ xs, limG b y) (v : Nat) : limG b (xs.getD v zConfig) := by
  rw [List.getD_eq_getElem?_getD]
  by_cases hv : v < xs.length
  · rw [List.getElem?_eq_getElem hv]
    exact h _ (List.getElem_mem hv)
  · rw [List.getElem?_eq_none (by omega)]
    exact zConfig_lim b
def servedBad (all : List Config) (i : Nat) : Int :=
  if configFault (all.getD i zConfig) ≠ 0 then configFault (all.getD i zConfig) else if (all.getD i zConfig).version ≠ (all.getD 0 zConfig).version + i then 1 else 0
def servedM (all : List Config) (cmds : List Cmd) : Int :=
  if all.length < 1 ∨ 60 < all.length ∨ cmds.length + 1 ≠ all.length then 2 else
  if scan (servedBad all) all.length 0 ≠ 0 then scan (servedBad all) all.length 0 else scan (cmdBad cmds) cmds.length 0
def lastC (all : List Config) : Config := all.getD (all.length - 1) zConfig
def serveM (all : List Config) (cmds : List Cmd) (from_ : Int) : UpdateResult :=
  if servedM all cmds ≠ 0 then badU (servedM all cmds) else if from_ < 0 then badU 3 else
  if (all.getD 0 zConfig).version ≤ from_ ∧ (lastC all).version - 4 ≤ from_ ∧ from_ ≤ (lastC all).version - 1 then ⟨0, ⟨from_, (lastC all).version, false, zConfig, cmds.drop (from_ - (all.getD 0 zConfig).version).toNat⟩⟩
  else ⟨0, ⟨0, (lastC all).version, true, lastC all, []⟩⟩
structure SvP (all : List Config) (cmds : List Cmd) : Prop where
  l1 : 1 ≤ all.length
  l2 : all.length ≤ 60
  l3 : cmds.length + 1 = all.length
  cf : ∀ i, i < all.length → configFault (all.getD i zConfig) = 0
  vs : ∀ i : Nat, i < all.length → (all.getD i zConfig).version = (all.getD 0 zConfig).version + i
  cm : ∀ i, i < cmds.length → cmdFault (cmds.getD i zCmd) = 0
theorem served_p {all : List Config} {cmds : List Cmd} (h : servedM all cmds = 0) : SvP all cmds := by
  unfold servedM at h
  split at h
  · exact absurd h (by decide)
  rename_i h1
  split at h
  · rename_i h2; exact absurd h h2
  rename_i h2
  have h3 := scan_zero.1 h
  have h4 := scan_zero.1 (show scan (servedBad all) all.length 0 = 0 by omega)
  have h5 : ∀ i, i < all.length → configFault (all.getD i zConfig) = 0 ∧ (all.getD i zConfig).version = (all.getD 0 zConfig).version + i := by
    intro i hi
    have h6 := h4 i (Nat.zero_le _) hi
    unfold servedBad at h6
    split at h6
    · rename_i h7; exact absurd h6 h7
    split at h6
    · exact absurd h6 (by decide)
    · exact ⟨by omega, by omega⟩
  exact ⟨by omega, by omega, by omega, fun i hi => (h5 i hi).1, fun i hi => (h5 i hi).2, fun i hi => h3 i (Nat.zero_le _) hi⟩
theorem served_last {all : List Config} {cmds : List Cmd} (P : SvP all cmds) : configFault (lastC all) = 0 ∧ (lastC all).version = (all.getD 0 zConfig).version + cmds.length := by
  have h1 := P.l1
  have h3 := P.l3
  have hv := P.vs (all.length - 1) (by omega)
  refine ⟨P.cf _ (by omega), ?_⟩
  unfold lastC
  rw [hv]
  omega
theorem cf_ver {c : Config} (h : configFault c = 0) : 0 ≤ c.version ∧ c.version ≤ 1000000 :=
   ⟨(cf_ok h).v0, (cf_ok h).v1⟩
theorem serve_up {all : List Config} {cmds : List Cmd} {from_ : Int} (h : (serveM all cmds from_).code = 0) : updateFault (serveM all cmds from_).update = 0 := by
  unfold serveM at h ⊢
  split at h
  · rename_i h1; exact absurd h h1
  rename_i h1
  split at h
  · exact absurd h (by decide)
  rename_i h2
  rw [if_neg h1, if_neg h2]
  have P := served_p (show servedM all cmds = 0 by omega)
  obtain ⟨c1, c2⟩ := served_last P
  have c3 := cf_ver c1
  have c4 := cf_ver (P.cf 0 P.l1)
  split
  · rename_i h3
    unfold updateFault
    have e1 : inR from_ 0 1000000 = true := by simp [inR]; omega
    have e2 : inR (lastC all).version 0 1000000 = true := by simp [inR]; omega
    have e3 : cfgZero zConfig = true := by decide
    simp only [e1, e2, e3, Bool.not_true, Bool.or_self, Bool.false_eq_true, if_false, reduceCtorEq, List.length_drop]
    rw [if_neg (by omega), if_neg (by omega)]
    rw [scan_zero]
    intro i _ hi
    unfold cmdBad
    have : (cmds.drop (from_ - (all.getD 0 zConfig).version).toNat).getD i zCmd = cmds.getD ((from_ - (all.getD 0 zConfig).version).toNat + i) zCmd := by
      rw [List.getD_eq_getElem?_getD, List.getElem?_drop, ← List.getD_eq_getElem?_getD]
    rw [this]
    exact P.cm _ (by omega)
  · unfold updateFault
    have e1 : inR 0 0 1000000 = true := by decide
    have e2 : inR (lastC all).version 0 1000000 = true := by simp [inR]; omega
    simp [e1, e2, c1]
theorem serve_lim {all : List Config} {cmds : List Cmd} {from_ : Int} {b : Nat} (hb : 1048576 ≤ b) (h : (serveM all cmds from_).code = 0) : limU b (serveM all cmds from_).update := by
  have hu := serve_up h
  unfold serveM at h ⊢
  split at h
  · rename_i h1; exact absurd h h1
  rename_i h1
  split at h
  · exact absurd h (by decide)
  rename_i h2
  rw [if_neg h1, if_neg h2]
  have P := served_p (show servedM all cmds = 0 by omega)
  obtain ⟨c1, c2⟩ := served_last P
  have := P.l2
  have := P.l3
  split
  · exact ⟨zConfig_lim b, by simp only [List.length_drop]; omega⟩
  · exact ⟨limG_mono hb (cf_l c1), by simp⟩
theorem eq_getD {α : Type} (z : α) {a b : List α} (hl : a.length = b.length) (h : ∀ j, j < a.length → a.getD j z = b.getD j z) : a = b := by
  apply List.ext_getElem hl
  intro i h1 h2
  have := h i h1
  rw [List.getD_eq_getElem?_getD, List.getD_eq_getElem?_getD, List.getElem?_eq_getElem h1, List.getElem?_eq_getElem h2] at this
  exact this
def nxV (code : List Int) (a n : Int) : Int :=
  if n < 1 then 0 else if code.length = 0 then (a * 7).tmod n else
  if 200 < n then ((code.getD (a.tmod code.length).toNat zI_u8 + a.tdiv code.length * 37) * 251 + code.getD ((a + 1).tmod code.length).toNat zI_u8 * 13 + a).tmod n
  else (code.getD (a.tmod code.length).toNat zI_u8 + a.tdiv code.length * 37).tmod n
def okB (code : List Int) : Prop := code.length ≤ 1048576 ∧ ∀ b ∈ code, 0 ≤ b ∧ b ≤ 255
theorem okB_at {code : List Int} (h : okB code) (i : Nat) : 0 ≤ code.getD i zI_u8 ∧ code.getD i zI_u8 ≤ 255 := by
  rw [List.getD_eq_getElem?_getD]
  by_cases hi : i < code.length
  · rw [List.getElem?_eq_getElem hi]
    exact h.2 _ (List.getElem_mem hi)
  · rw [List.getElem?_eq_none (by omega)]
    decide
theorem nxV_bd {code : List Int} (hb : okB code) {a : Int} (ha : 0 ≤ a) (n : Int) : 0 ≤ nxV code a n ∧ (1 ≤ n → nxV code a n < n) := by
  unfold nxV
  have h1 := okB_at hb (a.tmod code.length).toNat
  have h2 := okB_at hb ((a + 1).tmod code.length).toNat
  have h3 : 0 ≤ a.tdiv code.length := Int.tdiv_nonneg ha (Int.natCast_nonneg _)
  split
  · exact ⟨by omega, fun h => by omega⟩
  rename_i hn
  split
  · exact ⟨Int.tmod_nonneg _ (by omega), fun h => Int.tmod_lt_of_pos _ (by omega)⟩
  split
  · exact ⟨Int.tmod_nonneg _ (by omega), fun h => Int.tmod_lt_of_pos _ (by omega)⟩
  · exact ⟨Int.tmod_nonneg _ (by omega), fun h => Int.tmod_lt_of_pos _ (by omega)⟩
def pkV (code : List Int) (a : Int) (l : List Int) : Int := l.getD (nxV code a l.length).toNat zI_i64
theorem pkV_all {code : List Int} (hb : okB code) {a : Int} (ha : 0 ≤ a) {l : List Int} {p : Int → Prop} (hl : 0 < l.length) (h : ∀ x ∈ l, p x) : p (pkV code a l) := by
  have := nxV_bd hb ha l.length
  exact h _ (getD_mem zI_i64 (by omega))
def cd0 (code : List Int) (a : Int) : Cmd := ⟨pkV code a [1, 1, 2, 3, 4, 5, 6, 7, 7, 7, 8, 9], -1, 1 + nxV code (a + 1) 5, 167772160 + nxV code (a + 1 + 1) 3, pkV code (a + 1 + 1 + 1) [80, 80, 443], 6⟩
def cd1 (code : List Int) (a : Int) (x : Cmd) : Cmd :=
  if x.kind = 1 then ⟨x.kind, x.expect, x.name, 500 + x.name, nxV code a 4, x.proto⟩ else
  if x.kind = 2 then ⟨x.kind, x.expect, x.name, x.addr, nxV code a 10, x.proto⟩ else
  if x.kind = 3 then ⟨x.kind, x.expect, x.name, x.addr, 1 + nxV code a 3, x.proto⟩ else
  if x.kind = 9 then ⟨x.kind, x.expect, x.name, x.addr, nxV code a 2, x.proto⟩ else x
def cs1 (a k : Int) : Int := if k = 1 ∨ k = 2 ∨ k = 3 ∨ k = 9 then a + 1 else a
def cd2 (x : Cmd) : Cmd := ⟨x.kind, x.expect, if nd1 x.kind = true then x.name else 0, if nd2 x.kind = true then x.addr else 0, if nd3 x.kind = true then x.number else 0, if nd4 x.kind = true then x.proto else 0⟩
def cd3 (code : List Int) (a : Int) (x : Cmd) : Cmd := if nxV code a 12 = 0 then ⟨x.kind, nxV code (a + 1) 9, x.name, x.addr, x.number, x.proto⟩ else x
def cs3 (code : List Int) (a : Int) : Int := if nxV code a 12 = 0 then a + 1 + 1 else a + 1
def cmdA (code : List Int) (a : Int) : Int := cs1 (a + 1 + 1 + 1 + 1) (pkV code a [1, 1, 2, 3, 4, 5, 6, 7, 7, 7, 8, 9])
def cmdD (code : List Int) (a : Int) : Cmd := cd3 code (cmdA code a) (cd2 (cd1 code (a + 1 + 1 + 1 + 1) (cd0 code a)))
def cmdS (code : List Int) (a : Int) : Int := cs3 code (cmdA code a)
theorem cmdA_bd (code : List Int) (a : Int) : a + 4 ≤ cmdA code a ∧ cmdA code a ≤ a + 5 := by
  unfold cmdA cs1
  split <;> omega
theorem cmdS_bd (code : List Int) (a : Int) : a ≤ cmdS code a ∧ cmdS code a ≤ a + 7 := by
  have := cmdA_bd code a
  unfold cmdS cs3
  split <;> omega
def benD (code : List Int) (a : Int) (x : Cmd) : Cmd :=
  if nxV code a 18 = 0 then ⟨pkV code (a + 1 + 1) [0, 10, 1 + nxV code (a + 1) 9], x.expect, x.name, x.addr, x.number, x.proto⟩ else
  if nxV code a 18 = 1 then ⟨x.kind, pkV code (a + 1) [-2, 1000000, 1000001, 3], x.name, x.addr, x.number, x.proto⟩ else
  if nxV code a 18 = 2 then ⟨x.kind, x.expect, pkV code (a + 1) [0, 1000, 7], x.addr, x.number, x.proto⟩ else
  if nxV code a 18 = 3 then ⟨x.kind, x.expect, x.name, pkV code (a + 1) [-1, 4294967296, 7], x.number, x.proto⟩ else
  if nxV code a 18 = 4 then ⟨x.kind, x.expect, x.name, x.addr, pkV code (a + 1) [-1, 65536, 10, 0], x.proto⟩ else
  if nxV code a 18 = 5 then ⟨x.kind, x.expect, x.name, x.addr, x.number, pkV code (a + 1) [1, 0, 17]⟩ else x
def benS (code : List Int) (a : Int) : Int :=
  if nxV code a 18 = 0 then a + 1 + 1 + 1 else if nxV code a 18 = 1 ∨ nxV code a 18 = 2 ∨ nxV code a 18 = 3 ∨ nxV code a 18 = 4 ∨ nxV code a 18 = 5 then a + 1 + 1 else a + 1
theorem benS_bd (code : List Int) (a : Int) : a ≤ benS code a ∧ benS code a ≤ a + 3 := by
  unfold benS
  repeat' split
  all_goals omega
def bcmD (code : List Int) (a : Int) : Cmd := benD code (cmdS code a) (cmdD code a)
def bcmS (code : List Int) (a : Int) : Int := benS code (cmdS code a)
theorem bcmS_bd (code : List Int) (a : Int) : a ≤ bcmS code a ∧ bcmS code a ≤ a + 10 := by
  have h1 := cmdS_bd code a
  have h2 := benS_bd code (cmdS code a)
  unfold bcmS
  omega
def enC (code : List Int) (a : Int) : Int := 1 + nxV code a 3
def enQ (code : List Int) (a : Int) (seq : List Int) : List Int := if nxV code (a + 1) 5 = 0 then seq else seq.set (enC code a).toNat (seq.getD (enC code a).toNat zI_i64 + 1)
def enX (code : List Int) (a : Int) (seq : List Int) : Entry := ⟨1, enC code a, if (enQ code a seq).getD (enC code a).toNat zI_i64 < 1 then 1 else (enQ code a seq).getD (enC code a).toNat zI_i64, cmdD code (a + 1 + 1)⟩
def enY (code : List Int) (a : Int) (seq : List Int) : Entry := if nxV code (cmdS code (a + 1 + 1)) 10 = 0 then ⟨1, 0, 0, zCmd⟩ else enX code a seq
def enA (code : List Int) (a : Int) : Int := cmdS code (a + 1 + 1) + 1
def enZ (code : List Int) (a : Int) (out : List Entry) (seq : List Int) : Entry := if 0 < out.length ∧ nxV code (enA code a) 8 = 0 then out.getD (nxV code (enA code a + 1) out.length).toNat zEntry else enY code a seq
def enS (code : List Int) (a : Int) (n : Nat) : Int := if 0 < n then (if nxV code (enA code a) 8 = 0 then enA code a + 1 + 1 else enA code a + 1) else enA code a
theorem enS_bd (code : List Int) (a : Int) (n : Nat) : a ≤ enS code a n ∧ enS code a n ≤ a + 12 := by
  have := cmdS_bd code (a + 1 + 1)
  unfold enS enA
  repeat' split
  all_goals omega
def entL (code : List Int) : Nat → Int → List Entry → List Int → List Entry × Int
  | 0, a, out, _ => (out, a)
  | n + 1, a, out, seq => entL code n (enS code a out.length) (out ++ [enZ code a out seq]) (enQ code a seq)
theorem entL_len (code : List Int) : ∀ (n : Nat) (a : Int) (out : List Entry) (seq : List Int), (entL code n a out seq).1.length = out.length + n ∧ a ≤ (entL code n a out seq).2 ∧ (entL code n a out seq).2 ≤ a + 12 * n
  | 0, a, out, seq => ⟨rfl, Int.le_refl _, by simp [entL]⟩
  | n + 1, a, out, seq => by
    have h := entL_len code n (enS code a out.length) (out ++ [enZ code a out seq]) (enQ code a seq)
    have h2 := enS_bd code a out.length
    rw [entL]
    simp only [List.length_append, List.length_singleton] at h
    omega
def entD (code : List Int) (a n : Int) : List Entry × Int := entL code n.toNat a [] [0, 0, 0, 0]
def lsA (code : List Int) : List Entry × Int := entD code 1 (nxV code 0 24)
def lsB (code : List Int) : List Entry × Int :=
  if 0 < (lsA code).1.length then
    if nxV code (lsA code).2 10 = 0 then ((lsA code).1.set 0 ⟨((lsA code).1.getD 0 zEntry).term, ((lsA code).1.getD 0 zEntry).client, ((lsA code).1.getD 0 zEntry).seq, bcmD code ((lsA code).2 + 1)⟩, bcmS code ((lsA code).2 + 1)) else ((lsA code).1, (lsA code).2 + 1)
  else lsA code
def lsD (code : List Int) : List Entry := if nxV code (lsB code).2 40 = 0 then List.replicate 201 zEntry else (lsB code).1
theorem lsD_len {code : List Int} (hb : okB code) : (lsD code).length ≤ 201 := by
  have h1 := nxV_bd hb (a := 0) (by omega) 24
  have h2 := entL_len code (nxV code 0 24).toNat 1 [] [0, 0, 0, 0]
  have h3 : (lsA code).1.length ≤ 24 := by
    unfold lsA entD
    rw [h2.1]
    simp only [List.length_nil]
    omega
  unfold lsD
  split
  · rw [List.length_replicate]; exact Nat.le_refl _
  · unfold lsB
    split
    · split
      · simp only [List.length_set]; omega
      · simp only; omega
    · omega
theorem enQ_ok {code : List Int} {a : Int} {sq : List Int} {i : Nat} (hl : sq.length = 4) (h : ∀ s ∈ sq, 0 ≤ s ∧ s ≤ (i : Int)) (hc : 0 ≤ enC code a ∧ enC code a < 4) : (enQ code a sq).length = 4 ∧ ∀ s ∈ enQ code a sq, 0 ≤ s ∧ s ≤ ((i + 1 : Nat) : Int) := by
  unfold enQ
  split
  · exact ⟨hl, fun s hs => by have := h s hs; omega⟩
  · refine ⟨by rw [List.length_set]; exact hl, fun s hs => ?_⟩
    rcases List.mem_or_eq_of_mem_set hs with h1 | h1
    · have := h s h1; omega
    · have := h _ (getD_mem zI_i64 (show (enC code a).toNat < sq.length by omega))
      omega
def stepMa (m : Machine) (x : Entry) : Machine := (enterM m x).machine
def machF (xs : List Entry) (i : Nat) : Machine := (xs.take i).foldl stepMa zMachine
theorem repC_at : ∀ {xs : List Entry} {m : Machine} {i : Nat}, MaP m → repC xs m = 0 → MaP ((xs.take i).foldl stepMa m) ∧ repC (xs.drop i) ((xs.take i).foldl stepMa m) = 0 ∧ repC (xs.take i) m = 0
  | xs, m, 0, P, h => by simp only [List.take_zero, List.drop_zero, List.foldl_nil]; exact ⟨P, h, rfl⟩
  | [], m, i + 1, P, h => by simp only [List.take_nil, List.drop_nil, List.foldl_nil]; exact ⟨P, h, h⟩
  | x :: xs, m, i + 1, P, h => by
    rw [repC] at h
    split at h
    · rename_i h1; exact absurd h h1
    rename_i h1
    split at h
    · rename_i h2; exact absurd h h2
    rename_i h2
    obtain ⟨a1, a2, a3⟩ := repC_at (i := i) (enterM_p P (x := x) (by omega) (by omega)) h
    rw [List.take_succ_cons, List.drop_succ_cons, List.foldl_cons, repC, if_neg h1, if_neg h2]
    exact ⟨a1, a2, a3⟩
theorem repR_all : ∀ {xs : List Entry} {m : Machine} {rp : Int} {al : List Config}, repC xs m = 0 → (repR xs m rp al).1.machine = xs.foldl stepMa m
  | [], _, _, _, _ => rfl
  | x :: xs, m, rp, al, h => by
    rw [repC] at h
    rw [repR]
    split at h
    · rename_i h1; exact absurd h h1
    rename_i h1
    split at h
    · rename_i h2; exact absurd h h2
    rename_i h2
    rw [if_neg h1, if_neg h2, List.foldl_cons]
    exact repR_all h
theorem rp_all {xs : List Entry} (h : (replayM xs).1.code = 0) : (replayM xs).1.machine = machF xs xs.length ∧ repC xs zMachine = 0 := by
  have hl := replay_ok h
  rw [replay_code hl] at h
  unfold replayM machF
  rw [if_neg (by omega), repR_all h, List.take_length]
  exact ⟨rfl, h⟩
theorem rp_part {xs : List Entry} (h : (replayM xs).1.code = 0) (i : Nat) : (replayM (xs.take i)).1.code = 0 ∧ (replayM (xs.take i)).1.machine = machF xs i ∧ MaP (machF xs i) := by
  have hl := replay_ok h
  obtain ⟨a1, a2, a3⟩ := repC_at (i := i) maP_zero (rp_all h).2
  have hl2 : (xs.take i).length ≤ 200 := by rw [List.length_take]; omega
  refine ⟨by rw [replay_code hl2]; exact a3, ?_, a1⟩
  unfold replayM machF
  rw [if_neg (by omega), repR_all a3]
theorem machF_succ {xs : List Entry} {i : Nat} (h : i < xs.length) : machF xs (i + 1) = (enterM (machF xs i) (xs.getD i zEntry)).machine := by
  unfold machF
  rw [take_snoc zEntry h, List.foldl_append]
  rfl
theorem rp_next {xs : List Entry} (h : (replayM xs).1.code = 0) {i : Nat} (hi : i < xs.length) : (applyEntry (machF xs i) (xs.getD i zEntry)).code = 0 ∧ (applyEntry (machF xs i) (xs.getD i zEntry)).machine = machF xs (i + 1) := by
  obtain ⟨a1, a2, _⟩ := repC_at (i := i) maP_zero (rp_all h).2
  have h2 := repC_drop hi (machF xs i)
  obtain ⟨h0, hc⟩ := repC_ok h2 a2
  have P : MaP (machF xs i) := a1
  have e : applyEntry (machF xs i) (xs.getD i zEntry) = enterM (machF xs i) (xs.getD i zEntry) := by
    unfold applyEntry
    rw [if_neg (by rw [ma_fault P.cf P.ok]; decide), if_neg (by omega)]
  rw [e]
  exact ⟨hc, (machF_succ hi).symm⟩
structure AlP (al : List Config) (c : Config) : Prop where
  ln : (al.length : Int) = c.version + 1
  at_ : ∀ i : Nat, i < al.length → (al.getD i zConfig).version = i ∧ configFault (al.getD i zConfig) = 0
  ls : al.getD (al.length - 1) zConfig = c
theorem alP_zero : AlP [zConfig] zConfig := by
  refine ⟨by decide, fun i hi => ?_, rfl⟩
  obtain rfl : i = 0 := by simp at hi; omega
  exact ⟨rfl, by rfl⟩
theorem applyR_ver {c : Config} {x : Cmd} (h : (applyR c x).code = 0) : (applyR c x).config.version = c.version + 1 := by
  unfold applyR at h ⊢
  split at h
  · cases h
  rename_i h1
  split at h
  · cases h
  rename_i h2
  split at h
  · rename_i h3; exact absurd h h3
  rename_i h3
  rw [if_neg h1, if_neg h2, if_neg h3]
theorem alP_snoc {al : List Config} {c d : Config} (A : AlP al c) (hv : d.version = c.version + 1) (hf : configFault d = 0) : AlP (al ++ [d]) d := by
  have h1 := A.ln
  refine ⟨by simp only [List.length_append, List.length_singleton]; omega, fun i hi => ?_, ?_⟩
  · simp only [List.length_append, List.length_singleton] at hi
    by_cases e : i < al.length
    · rw [List.getD_eq_getElem?_getD, List.getElem?_append_left e, ← List.getD_eq_getElem?_getD]
      exact A.at_ i e
    · obtain rfl : i = al.length := by omega
      rw [List.getD_eq_getElem?_getD, List.getElem?_append_right (Nat.le_refl _), Nat.sub_self]
      exact ⟨by show d.version = _; omega, hf⟩
  · simp only [List.length_append, List.length_singleton, Nat.add_sub_cancel]
    rw [List.getD_eq_getElem?_getD, List.getElem?_append_right (Nat.le_refl _), Nat.sub_self]
    rfl
theorem alP_step {al : List Config} {m : Machine} {x : Entry} (P : MaP m) (A : AlP al m.config) (hx : entryFault x = 0) (hc : (enterM m x).code = 0) : AlP (addC al (enterM m x)) (enterM m x).machine.config := by
  have P2 := enterM_p P hx hc
  have h2 := P2.cf
  unfold enterM at hc h2 ⊢
  split at hc
  · rename_i h; rw [if_pos h]; unfold addC freshM; simp only [Bool.false_and, Bool.false_eq_true, if_false]; exact A
  rename_i h1
  split at hc
  · rename_i h; rw [if_neg h1, if_pos h]; unfold addC freshM; simp only [Bool.false_and, Bool.false_eq_true, if_false]; exact A
  rename_i h3
  split at hc
  · cases hc
  rename_i h4
  rw [if_neg h1, if_neg h3, if_neg h4] at h2 ⊢
  unfold addC freshM
  by_cases e : (applyR m.config x.cmd).code = 0
  · simp only [e, if_true, decide_true, Bool.and_self] at h2 ⊢
    exact alP_snoc A (applyR_ver e) h2
  · simp only [e, if_false, decide_false, Bool.and_false, Bool.false_eq_true]
    exact A
theorem repA_alp : ∀ {xs : List Entry} {m : Machine} {al : List Config}, MaP m → AlP al m.config → repC xs m = 0 → AlP (repA xs m al) (xs.foldl stepMa m).config
  | [], m, al, P, A, h => A
  | x :: xs, m, al, P, A, h => by
    rw [repC] at h
    rw [repA]
    split at h
    · rename_i h1; exact absurd h h1
    rename_i h1
    split at h
    · rename_i h2; exact absurd h h2
    rename_i h2
    rw [if_neg h1, if_neg h2, List.foldl_cons]
    exact repA_alp (enterM_p P (by omega) (by omega)) (alP_step P A (by omega) (by omega)) h
theorem replay_alp {xs : List Entry} (h : (replayM xs).1.code = 0) : AlP (replayM xs).2 (replayM xs).1.machine.config := by
  have hl := replay_ok h
  obtain ⟨h1, h2⟩ := rp_all h
  rw [replayA_eq h, h1]
  unfold replayA machF
  rw [if_neg (by omega), List.take_length]
  exact repA_alp maP_zero alP_zero h2
theorem rp_fault {xs : List Entry} (h : (replayM xs).1.code = 0) : machineFault (replayM xs).1.machine = 0 := by
  have P := (rp_part h xs.length).2.2
  rw [(rp_all h).1]
  exact ma_fault P.cf P.ok
def lwV (code : List Int) (i n : Int) : Int :=
  if n ≤ 1 then 0 else if code.length = 0 then (i * 7).tmod n else
  if 200 < n then ((code.getD (i.tmod code.length).toNat zI_u8 + i.tdiv code.length * 3) * 251 + code.getD ((i + 1).tmod code.length).toNat zI_u8).tmod n
  else (code.getD (i.tmod code.length).toNat zI_u8 + i.tdiv code.length * 3).tmod n
theorem lwV_bd {code : List Int} (hb : okB code) {i : Int} (hi : 0 ≤ i) (n : Int) : 0 ≤ lwV code i n ∧ (1 ≤ n → lwV code i n < n) := by
  unfold lwV
  have h1 := okB_at hb (i.tmod code.length).toNat
  have h2 := okB_at hb ((i + 1).tmod code.length).toNat
  have h3 : 0 ≤ i.tdiv code.length := Int.tdiv_nonneg hi (Int.natCast_nonneg _)
  split
  · exact ⟨by omega, fun h => by omega⟩
  split
  · exact ⟨Int.tmod_nonneg _ (by omega), fun h => Int.tmod_lt_of_pos _ (by omega)⟩
  split
  · exact ⟨Int.tmod_nonneg _ (by omega), fun h => Int.tmod_lt_of_pos _ (by omega)⟩
  · exact ⟨Int.tmod_nonneg _ (by omega), fun h => Int.tmod_lt_of_pos _ (by omega)⟩
instance decSession : DecidableEq Session := fun a b =>
  if h : a.client = b.client ∧ a.seq = b.seq ∧ a.code = b.code then isTrue (by cases a; cases b; simp_all) else isFalse (fun e => h (by subst e; simp))
theorem eq_session {a b : Session} : a = b ↔ (a.client = b.client ∧ a.seq = b.seq ∧ a.code = b.code) := ⟨fun e => by subst e; simp, fun h => by cases a; cases b; simp_all⟩
instance decMachine : DecidableEq Machine := fun a b =>
  if h : a.config = b.config ∧ a.sessions = b.sessions then isTrue (by cases a; cases b; simp_all) else isFalse (fun e => h (by subst e; simp))
theorem eq_machine {a b : Machine} : a = b ↔ (a.config = b.config ∧ a.sessions = b.sessions) := ⟨fun e => by subst e; simp, fun h => by cases a; cases b; simp_all⟩
theorem putS_at (xs : List Session) (s : Session) : (putS xs s).getD (lbS xs s.client) zSession = s ∧ ∀ p, p < lbS xs s.client → (putS xs s).getD p zSession = xs.getD p zSession := by
  have hl := lbS_le xs s.client
  have ht : (xs.take (lbS xs s.client)).length = lbS xs s.client := by rw [List.length_take]; omega
  unfold putS
  refine ⟨?_, fun p hp => ?_⟩
  · rw [List.getD_eq_getElem?_getD, List.getElem?_append_right (by omega), ht, Nat.sub_self]
    rfl
  · rw [List.getD_eq_getElem?_getD, List.getElem?_append_left (by omega), List.getElem?_take_of_lt hp, ← List.getD_eq_getElem?_getD]
theorem lbS_put (xs : List Session) (s : Session) : lbS (putS xs s) s.client = lbS xs s.client := by
  obtain ⟨h1, h2⟩ := putS_at xs s
  have hl := lbS_le xs s.client
  refine lbS_eq ?_ (fun p hp => ?_) (fun _ => ?_)
  · rw [putS_length]
    split
    · exact hl
    · omega
  · rw [h2 p hp]; exact lbS_lt hp
  · rw [h1]; exact Int.le_refl _
theorem hasS_put (xs : List Session) (s : Session) : hasS (putS xs s) s.client = true := by
  unfold hasS
  rw [lbS_put, (putS_at xs s).1]
  have hl := lbS_le xs s.client
  have : lbS xs s.client < (putS xs s).length := by
    rw [putS_length]
    split
    · rename_i h; exact hasS_lt h
    · omega
  simp [this]
def atS (m : Machine) (c : Int) : Session := m.sessions.getD (lbS m.sessions c) zSession
def replyOf (m : Machine) (c q : Int) : Int × Int :=
  if machineFault m ≠ 0 then (machineFault m, 0) else if hasS m.sessions c = false ∨ (atS m c).seq < q then (4, 0) else if q < (atS m c).seq then (9, 0) else (0, (atS m c).code)
theorem once_again {m : Machine} {x : Entry} (P : MaP m) (hx : entryFault x = 0) (hc : (enterM m x).code = 0) :
    enterM (enterM m x).machine x = ⟨0, (enterM m x).reply, false, (enterM m x).machine⟩ := by
  unfold enterM at hc ⊢
  split at hc
  · rename_i h; simp only [if_pos h]
  rename_i h1
  split at hc
  · rename_i h2
    simp only [if_neg h1, if_pos h2]
  rename_i h2
  split at hc
  · cases hc
  rename_i h3
  simp only [if_neg h1, if_neg h2, if_neg h3]
  have e1 := hasS_put m.sessions ⟨x.client, x.seq, (applyR m.config x.cmd).code⟩
  have e2 := lbS_put m.sessions ⟨x.client, x.seq, (applyR m.config x.cmd).code⟩
  have e3 := (putS_at m.sessions ⟨x.client, x.seq, (applyR m.config x.cmd).code⟩).1
  simp only at e1 e2 e3
  have ho : ∀ g : Config, oldM ⟨g, putS m.sessions ⟨x.client, x.seq, (applyR m.config x.cmd).code⟩⟩ x = true := by
    intro g
    unfold oldM
    simp only [e1, e2, e3, Int.le_refl, decide_true, Bool.and_self]
  rw [if_pos (ho _)]
  simp only [e2, e3, if_true]
theorem once_same {m : Machine} {x : Entry} (h : x.client = 0) : (enterM m x).machine = m := by
  unfold enterM
  rw [if_pos h]
theorem once_told {m : Machine} {x : Entry} (P : MaP m) (hx : entryFault x = 0) (hc : (enterM m x).code = 0) (h0 : x.client ≠ 0) :
    (replyOf (enterM m x).machine x.client x.seq = (0, (enterM m x).reply)) ∨ (replyOf (enterM m x).machine x.client x.seq = (9, 0) ∧ (enterM m x).reply = 9 ∧ (enterM m x).fresh = false) := by
  have hm := ma_fault (enterM_p P hx hc).cf (enterM_p P hx hc).ok
  unfold replyOf
  rw [if_neg (by omega)]
  unfold enterM at hc ⊢
  split at hc
  · rename_i h; exact absurd h h0
  rename_i h1
  split at hc
  · rename_i h2
    simp only [if_neg h1, if_pos h2]
    have h3 := h2
    unfold oldM at h3
    simp only [Bool.and_eq_true, decide_eq_true_eq] at h3
    obtain ⟨h4, h5⟩ := h3
    have e : atS m x.client = m.sessions.getD (lbS m.sessions x.client) zSession := rfl
    rw [e]
    rw [if_neg (by rw [h4]; rintro (h | h); cases h; omega)]
    by_cases h6 : (m.sessions.getD (lbS m.sessions x.client) zSession).seq = x.seq
    · rw [if_neg (by omega), if_pos h6]; exact .inl rfl
    · rw [if_pos (by omega), if_neg h6]; right; simp
  rename_i h2
  split at hc
  · cases hc
  rename_i h3
  simp only [if_neg h1, if_neg h2, if_neg h3]
  have e1 := hasS_put m.sessions ⟨x.client, x.seq, (applyR m.config x.cmd).code⟩
  have e2 := lbS_put m.sessions ⟨x.client, x.seq, (applyR m.config x.cmd).code⟩
  have e3 := (putS_at m.sessions ⟨x.client, x.seq, (applyR m.config x.cmd).code⟩).1
  simp only at e1 e2 e3
  unfold atS
  simp only [e1, e2, e3]
  left
  rw [if_neg (by simp), if_neg (by omega)]
theorem stepsR_ver : ∀ {xs : List Cmd} {c : Config}, (stepsR xs c).code = 0 → (stepsR xs c).config.version = c.version + xs.length
  | [], c, h => by simp [stepsR]
  | x :: xs, c, h => by
    rw [stepsR] at h ⊢
    split at h
    · rename_i h1; exact absurd h h1
    split at h
    · rename_i h1 h2; exact absurd h h2
    rename_i h1 h2
    rw [if_neg h1, if_neg h2, stepsR_ver h, applyR_ver (by omega)]
    simp only [List.length_cons]
    omega
theorem take_on {w : Watch} {u : Update} (h : (takeU w u).code = 0) : watchFault (takeU w u).watch = 0 ∧ (takeU w u).watch.ready = true ∧ (takeU w u).watch.config.version = u.to_ ∧ (w.ready = true → w.config.version < u.to_) ∧ (takeU (takeU w u).watch u).code = 9 := by
  have hw : watchFault w = 0 := by
    unfold takeU at h
    split at h
    · rename_i h1; exact absurd h h1
    · omega
  have h1 := takeU_ok hw h
  have hu : updateFault u = 0 := by
    unfold takeU at h
    rw [if_neg (by omega)] at h
    split at h
    · rename_i h2; exact absurd h h2
    · omega
  have he : ∀ v, watchFault v = 0 → takeU v u = takeW v u := fun v hv => by
    unfold takeU
    rw [if_neg (by omega), if_neg (by omega)]
  rw [he w hw] at h h1 ⊢
  rw [he _ h1]
  have key : (takeW w u).watch.ready = true ∧ (takeW w u).watch.config.version = u.to_ ∧ (w.ready = true → w.config.version < u.to_) := by
    unfold takeW at h ⊢
    split at h
    · rename_i e1
      rw [if_pos e1]
      split at h
      · cases h
      rename_i e2
      rw [if_neg e2]
      refine ⟨rfl, ?_, fun hr => ?_⟩
      · unfold updateFault at hu
        grind
      · grind
    rename_i e1
    rw [if_neg e1]
    split at h
    · cases h
    rename_i e2
    split at h
    · cases h
    rename_i e3
    split at h
    · cases h
    rename_i e4
    split at h
    · rename_i e5; exact absurd h e5
    rename_i e5
    rw [if_neg e2, if_neg e3, if_neg e4, if_neg e5]
    refine ⟨rfl, ?_, fun _ => by omega⟩
    have := stepsR_ver (xs := u.cmds) (c := w.config) (by omega)
    have hl : u.to_ - u.from_ = u.cmds.length := by
      unfold updateFault at hu
      grind
    simp only
    omega
  refine ⟨h1, key.1, key.2.1, key.2.2, ?_⟩
  generalize hg : (takeW w u).watch = v at key
  unfold takeW
  rw [key.1, key.2.1]
  split
  · rw [if_pos ⟨rfl, Int.le_refl _⟩]; rfl
  · rw [if_neg (by simp), if_pos (Int.le_refl _)]; rfl
theorem takeAll_on : ∀ {us : List Update} {w : Watch}, watchFault w = 0 → w.config.version ≤ (takeAll us w).config.version ∧ (w.ready = true → (takeAll us w).ready = true)
  | [], w, _ => ⟨Int.le_refl _, id⟩
  | u :: us, w, hw => by
    rw [takeAll]
    split
    · rename_i h
      obtain ⟨a1, a2, a3, a4, _⟩ := take_on h
      obtain ⟨b1, b2⟩ := takeAll_on (us := us) a1
      refine ⟨?_, fun _ => b2 a2⟩
      by_cases hr : w.ready = true
      · have := a4 hr
        omega
      · have hz : w.config.version = 0 := by
          unfold watchFault at hw
          have hr2 : w.ready = false := by simpa using hr
          split at hw
          · rename_i h5; exact absurd hw h5
          split at hw
          · cases hw
          rename_i h6
          have : cfgZero w.config = true := by
            cases e : cfgZero w.config with
            | true => rfl
            | false => exact absurd ⟨hr2, e⟩ h6
          unfold cfgZero at this
          grind
        have := (cf_ok (watch_cf a1)).v0
        omega
    · exact takeAll_on hw
theorem cd2_ok {x : Cmd} (hk : 1 ≤ x.kind ∧ x.kind ≤ 9) (he : x.expect = -1) (hn : 1 ≤ x.name ∧ x.name ≤ 999) (ha : 0 ≤ x.addr ∧ x.addr ≤ 4294967295) (hm : isNum x = true) (hp : x.proto = 6) : cmdFault (cd2 x) = 0 := by
  obtain ⟨k, e, n, a, m, p⟩ := x
  simp only at hk he hn ha hp
  subst he hp
  obtain rfl | rfl | rfl | rfl | rfl | rfl | rfl | rfl | rfl : k = 1 ∨ k = 2 ∨ k = 3 ∨ k = 4 ∨ k = 5 ∨ k = 6 ∨ k = 7 ∨ k = 8 ∨ k = 9 := by omega
  all_goals
    simp [isNum, inR] at hm
    simp [cmdFault, cd2, nd1, nd2, nd3, nd4, isNum, isPro, inR]
    try omega
theorem cd3_ok {code : List Int} {a : Int} {x : Cmd} (h : cmdFault x = 0) (h9 : 0 ≤ nxV code (a + 1) 9 ∧ nxV code (a + 1) 9 < 9) : cmdFault (cd3 code a x) = 0 := by
  unfold cd3
  split
  · obtain ⟨k, e, n, a2, m, p⟩ := x
    have hi : inR (nxV code (a + 1) 9) (-1) 1000000 = true := by simp [inR]; omega
    have hN : ∀ y z, isNum ⟨k, y, n, a2, m, p⟩ = isNum ⟨k, z, n, a2, m, p⟩ := fun _ _ => rfl
    unfold cmdFault at h ⊢
    simp only [hi, hN (nxV code (a + 1) 9) e] at h ⊢
    grind
  · exact h
theorem cmdD_ok {code : List Int} (hb : okB code) {a : Int} (ha : 0 ≤ a) : cmdFault (cmdD code a) = 0 := by
  have hk : ∀ x ∈ [1, 1, 2, 3, 4, 5, 6, 7, 7, 7, 8, 9], (1 : Int) ≤ x ∧ x ≤ 9 := by decide
  have hn : ∀ x ∈ [80, 80, 443], (80 : Int) ≤ x ∧ x ≤ 443 := by decide
  have k1 := pkV_all hb ha (l := [1, 1, 2, 3, 4, 5, 6, 7, 7, 7, 8, 9]) (p := fun x => 1 ≤ x ∧ x ≤ 9) (by simp) hk
  have k2 := nxV_bd hb (a := a + 1) (by omega) 5
  have k3 := nxV_bd hb (a := a + 1 + 1) (by omega) 3
  have k4 := pkV_all hb (a := a + 1 + 1 + 1) (by omega) (l := [80, 80, 443]) (p := fun x => 80 ≤ x ∧ x ≤ 443) (by simp) hn
  have k5 := nxV_bd hb (a := a + 1 + 1 + 1 + 1) (by omega) 4
  have k6 := nxV_bd hb (a := a + 1 + 1 + 1 + 1) (by omega) 10
  have k7 := nxV_bd hb (a := a + 1 + 1 + 1 + 1) (by omega) 3
  have k8 := nxV_bd hb (a := a + 1 + 1 + 1 + 1) (by omega) 2
  have hA := cmdA_bd code a
  have k9 := nxV_bd hb (a := cmdA code a + 1) (by omega) 9
  unfold cmdD
  refine cd3_ok ?_ ⟨k9.1, k9.2 (by omega)⟩
  refine cd2_ok ?_ ?_ ?_ ?_ ?_ ?_
  all_goals
    unfold cd1 cd0
    dsimp only
    repeat' split
    all_goals (try unfold isNum inR) <;> grind
def rgtL (code : List Int) : Nat → Config → Int → Config × Int
  | 0, c, a => (c, a)
  | n + 1, c, a => rgtL code n (if (applyR c (cmdD code a)).code = 0 then (applyR c (cmdD code a)).config else c) (cmdS code a)
theorem rgtL_ok {code : List Int} (hb : okB code) : ∀ {n : Nat} {c : Config} {a : Int}, 0 ≤ a → configFault c = 0 → configFault (rgtL code n c a).1 = 0 ∧ a ≤ (rgtL code n c a).2 ∧ (rgtL code n c a).2 ≤ a + 7 * n
  | 0, c, a, ha, h => ⟨h, Int.le_refl _, by simp [rgtL]⟩
  | n + 1, c, a, ha, h => by
    have hs := cmdS_bd code a
    rw [rgtL]
    have key : configFault (if (applyR c (cmdD code a)).code = 0 then (applyR c (cmdD code a)).config else c) = 0 := by
      split
      · rename_i h1; exact p_fault (applyR_p (cf_ok h) (cmdD_ok hb ha) h1)
      · exact h
    obtain ⟨h1, h2, h3⟩ := rgtL_ok hb (n := n) (a := cmdS code a) (by omega) key
    exact ⟨h1, by omega, by omega⟩
def rgtD (code : List Int) (a : Int) : Config × Int := rgtL code (nxV code a 24).toNat zConfig (a + 1)
def bnC (code : List Int) (a : Int) (c : Config) : Config :=
  if nxV code a 20 = 0 then ⟨pkV code (a + 1) [-1, 1000000, 1000001], c.backends, c.vips⟩ else
  if nxV code a 20 = 1 then ⟨c.version, c.backends ++ [⟨pkV code (a + 1) [1, 999, 0], 0, pkV code (a + 1 + 1) [0, 10], nxV code (a + 1 + 1 + 1) 5, false⟩], c.vips⟩ else
  if nxV code a 20 = 2 then ⟨c.version, c.backends, c.vips ++ [⟨pkV code (a + 1) [0, 4294967295], pkV code (a + 1 + 1) [80, 65536], pkV code (a + 1 + 1 + 1) [6, 1], [nxV code (a + 1 + 1 + 1 + 1) 4]⟩]⟩ else
  if nxV code a 20 = 3 then ⟨c.version, List.replicate 9 zBackend, c.vips⟩ else c
def bnA (code : List Int) (a : Int) : Int :=
  if nxV code a 20 = 0 then a + 1 + 1 else if nxV code a 20 = 1 then a + 1 + 1 + 1 + 1 else if nxV code a 20 = 2 then a + 1 + 1 + 1 + 1 + 1 else a + 1
def bntD (code : List Int) (a : Int) : Config := bnC code (rgtD code a).2 (rgtD code a).1
def bntS (code : List Int) (a : Int) : Int := bnA code (rgtD code a).2
theorem rgtD_ok {code : List Int} (hb : okB code) {a : Int} (ha : 0 ≤ a) : configFault (rgtD code a).1 = 0 ∧ a ≤ (rgtD code a).2 ∧ (rgtD code a).2 ≤ a + 170 := by
  have h1 := nxV_bd hb ha 24
  obtain ⟨h2, h3, h4⟩ := rgtL_ok hb (n := (nxV code a 24).toNat) (c := zConfig) (a := a + 1) (by omega) (by rfl)
  unfold rgtD
  exact ⟨h2, by omega, by omega⟩
theorem bntD_ok {code : List Int} (hb : okB code) {a : Int} (ha : 0 ≤ a) : limG 1048577 (bntD code a) ∧ a ≤ bntS code a ∧ bntS code a ≤ a + 175 := by
  obtain ⟨h1, h2, h3⟩ := rgtD_ok hb ha
  have hl := cf_l h1
  obtain ⟨l1, l2, l3⟩ := id hl
  refine ⟨?_, ?_⟩
  · unfold bntD bnC
    repeat' split
    · exact ⟨Nat.le_succ_of_le l1, Nat.le_succ_of_le l2, fun v hv => Nat.le_succ_of_le (l3 v hv)⟩
    · exact ⟨by simp only [List.length_append, List.length_singleton]; omega, Nat.le_succ_of_le l2, fun v hv => Nat.le_succ_of_le (l3 v hv)⟩
    · refine ⟨Nat.le_succ_of_le l1, by simp only [List.length_append, List.length_singleton]; omega, fun v hv => ?_⟩
      rcases List.mem_append.1 hv with hv | hv
      · exact Nat.le_succ_of_le (l3 v hv)
      · rw [List.mem_singleton] at hv
        rw [hv]
        unfold limV
        simp
    · exact ⟨by simp only [List.length_replicate]; omega, Nat.le_succ_of_le l2, fun v hv => Nat.le_succ_of_le (l3 v hv)⟩
    · exact limG_mono (by omega) hl
  · unfold bntS bnA
    repeat' split
    all_goals omega
def mbL (code : List Int) (a : Int) : List Entry × Int := entD code (a + 1) (nxV code a 24)
def mbM (code : List Int) (a : Int) : Machine := (replayM (mbL code a).1).1.machine
def mbC (code : List Int) (a : Int) (m : Machine) : Machine :=
  if nxV code a 16 = 0 then ⟨bntD code (a + 1), m.sessions⟩ else
  if nxV code a 16 = 1 then ⟨m.config, m.sessions ++ [⟨pkV code (a + 1) [1, 999, 0], pkV code (a + 1 + 1) [1, 0], pkV code (a + 1 + 1 + 1) [0, 11]⟩]⟩ else
  if nxV code a 16 = 2 then ⟨m.config, List.replicate 41 zSession⟩ else m
def mbA (code : List Int) (a : Int) : Int :=
  if nxV code a 16 = 0 then bntS code (a + 1) else if nxV code a 16 = 1 then a + 1 + 1 + 1 + 1 else a + 1
def mbtD (code : List Int) (a : Int) : Machine := mbC code (mbL code a).2 (mbM code a)
def mbtS (code : List Int) (a : Int) : Int := mbA code (mbL code a).2
theorem mbL_ok {code : List Int} (hb : okB code) {a : Int} (ha : 0 ≤ a) : (mbL code a).1.length ≤ 24 ∧ a ≤ (mbL code a).2 ∧ (mbL code a).2 ≤ a + 300 := by
  have h1 := nxV_bd hb ha 24
  have h2 := entL_len code (nxV code a 24).toNat (a + 1) [] [0, 0, 0, 0]
  unfold mbL entD
  simp only [List.length_nil] at h2
  omega
theorem mbtD_ok {code : List Int} (hb : okB code) {a : Int} (ha : 0 ≤ a) : limM 1048578 (mbtD code a) ∧ a ≤ mbtS code a ∧ mbtS code a ≤ a + 480 := by
  obtain ⟨h1, h2, h3⟩ := mbL_ok hb ha
  have hl := replay_lim (mbL code a).1
  obtain ⟨b1, b2, b3⟩ := bntD_ok hb (a := (mbL code a).2 + 1) (by omega)
  refine ⟨?_, ?_⟩
  · unfold mbtD mbC mbM
    repeat' split
    · exact ⟨limG_mono (by omega) b1, Nat.le_succ_of_le hl.2⟩
    · exact ⟨limG_mono (by omega) hl.1, by have := hl.2; simp only [List.length_append, List.length_singleton]; omega⟩
    · exact ⟨limG_mono (by omega) hl.1, by simp only [List.length_replicate]; omega⟩
    · exact ⟨limG_mono (by omega) hl.1, Nat.le_succ_of_le hl.2⟩
  · unfold mbtS mbA
    repeat' split
    all_goals omega
def daX (code : List Int) (a : Int) : Entry := ⟨1, 1 + nxV code a 4, 1 + nxV code (a + 1) 9, bcmD code (a + 1 + 1)⟩
def daA (code : List Int) : Int := bcmS code (mbtS code 0 + 1 + 1)
def daS (code : List Int) : Session := (mbtD code 0).sessions.getD (nxV code (daA code + 1) (mbtD code 0).sessions.length).toNat zSession
def daE (code : List Int) : Entry :=
  if 0 < (mbtD code 0).sessions.length ∧ nxV code (daA code) 3 ≠ 0 then ⟨1, (daS code).client, (daS code).seq + pkV code (daA code + 1 + 1) [1, 1, 0, -1], (daX code (mbtS code 0)).cmd⟩ else daX code (mbtS code 0)
def lstC (al : List Config) : Config := al.getD (al.length - 1) zConfig
def hisL (code : List Int) : Nat → List Config → List Cmd → Int → (List Config × List Cmd) × Int
  | 0, al, cs, a => ((al, cs), a)
  | n + 1, al, cs, a =>
    if (applyR (lstC al) (cmdD code a)).code = 0 then hisL code n (al ++ [(applyR (lstC al) (cmdD code a)).config]) (cs ++ [cmdD code a]) (cmdS code a)
    else hisL code n al cs (cmdS code a)
structure HisP (al : List Config) (cs : List Cmd) : Prop where
  ln : al.length = cs.length + 1
  cf : ∀ i, i < al.length → configFault (al.getD i zConfig) = 0
  cm : ∀ i, i < cs.length → cmdFault (cs.getD i zCmd) = 0
  st : ∀ i, i < cs.length → (applyR (al.getD i zConfig) (cs.getD i zCmd)).code = 0 ∧ (applyR (al.getD i zConfig) (cs.getD i zCmd)).config = al.getD (i + 1) zConfig
theorem getD_left {α : Type} (z : α) {a b : List α} {i : Nat} (h : i < a.length) : (a ++ b).getD i z = a.getD i z := by
  rw [List.getD_eq_getElem?_getD, List.getElem?_append_left h, ← List.getD_eq_getElem?_getD]
theorem getD_last {α : Type} (z : α) (a : List α) (x : α) : (a ++ [x]).getD a.length z = x := by
  rw [List.getD_eq_getElem?_getD, List.getElem?_append_right (Nat.le_refl _), Nat.sub_self]
  rfl
theorem hisP_snoc {al : List Config} {cs : List Cmd} (H : HisP al cs) {x : Cmd} (hx : cmdFault x = 0) (hr : (applyR (lstC al) x).code = 0) : HisP (al ++ [(applyR (lstC al) x).config]) (cs ++ [x]) := by
  have hl := H.ln
  have e : lstC al = al.getD cs.length zConfig := by unfold lstC; rw [hl]; rfl
  have hc := H.cf cs.length (by omega)
  refine ⟨by simp only [List.length_append, List.length_singleton]; omega, fun i hi => ?_, fun i hi => ?_, fun i hi => ?_⟩
  · simp only [List.length_append, List.length_singleton] at hi
    by_cases h : i < al.length
    · rw [getD_left zConfig h]; exact H.cf i h
    · obtain rfl : i = al.length := by omega
      rw [getD_last]
      exact p_fault (applyR_p (cf_ok (by rw [e]; exact hc)) hx hr)
  · simp only [List.length_append, List.length_singleton] at hi
    by_cases h : i < cs.length
    · rw [getD_left zCmd h]; exact H.cm i h
    · obtain rfl : i = cs.length := by omega
      rw [getD_last]; exact hx
  · simp only [List.length_append, List.length_singleton] at hi
    by_cases h : i < cs.length
    · rw [getD_left zCmd h, getD_left zConfig (by omega), getD_left zConfig (by omega)]; exact H.st i h
    · obtain rfl : i = cs.length := by omega
      rw [getD_last, getD_left zConfig (by omega), ← e, ← hl, getD_last]
      exact ⟨hr, rfl⟩
theorem hisL_ok {code : List Int} (hb : okB code) : ∀ {n : Nat} {al : List Config} {cs : List Cmd} {a : Int}, 0 ≤ a → HisP al cs → HisP (hisL code n al cs a).1.1 (hisL code n al cs a).1.2 ∧ (hisL code n al cs a).1.2.length ≤ cs.length + n ∧ a ≤ (hisL code n al cs a).2 ∧ (hisL code n al cs a).2 ≤ a + 7 * n
  | 0, al, cs, a, ha, H => ⟨H, Nat.le_refl _, Int.le_refl _, by simp [hisL]⟩
  | n + 1, al, cs, a, ha, H => by
    have hs := cmdS_bd code a
    rw [hisL]
    split
    · rename_i h
      obtain ⟨h1, h2, h3, h4⟩ := hisL_ok hb (n := n) (a := cmdS code a) (by omega) (hisP_snoc H (cmdD_ok hb ha) h)
      simp only [List.length_append, List.length_singleton] at h2
      exact ⟨h1, by omega, by omega, by omega⟩
    · obtain ⟨h1, h2, h3, h4⟩ := hisL_ok hb (n := n) (a := cmdS code a) (by omega) H
      exact ⟨h1, by omega, by omega, by omega⟩
def hisD (code : List Int) (a : Int) : (List Config × List Cmd) × Int := hisL code (nxV code (rgtD code a).2 12).toNat [(rgtD code a).1] [] ((rgtD code a).2 + 1)
theorem hisD_ok {code : List Int} (hb : okB code) {a : Int} (ha : 0 ≤ a) : HisP (hisD code a).1.1 (hisD code a).1.2 ∧ (hisD code a).1.2.length ≤ 11 ∧ a ≤ (hisD code a).2 ∧ (hisD code a).2 ≤ a + 270 := by
  obtain ⟨h1, h2, h3⟩ := rgtD_ok hb ha
  have h4 := nxV_bd hb (a := (rgtD code a).2) (by omega) 12
  have H0 : HisP [(rgtD code a).1] [] := ⟨rfl, fun i hi => by
    obtain rfl : i = 0 := by simp at hi; omega
    exact h1, fun i hi => by simp at hi, fun i hi => by simp at hi⟩
  obtain ⟨k1, k2, k3, k4⟩ := hisL_ok hb (n := (nxV code (rgtD code a).2 12).toNat) (a := (rgtD code a).2 + 1) (by omega) H0
  unfold hisD
  simp only [List.length_nil] at k2
  exact ⟨k1, by omega, by omega, by omega⟩
def fulU (c : Config) : UpdateResult := if configFault c ≠ 0 then badU (configFault c) else ⟨0, ⟨0, c.version, true, c, []⟩⟩
def wc0 (code : List Int) (a : Int) (al : List Config) : Watch := if nxV code a 5 = 0 then zWatch else ⟨true, al.getD (nxV code (a + 1) al.length).toNat zConfig⟩
def wa0 (code : List Int) (a : Int) : Int := if nxV code a 5 = 0 then a + 1 else a + 1 + 1
def wchD (code : List Int) (a : Int) (al : List Config) : Watch := if nxV code (wa0 code a) 14 = 0 then ⟨(wc0 code a al).ready, bntD code (wa0 code a + 1)⟩ else wc0 code a al
def wchS (code : List Int) (a : Int) : Int := if nxV code (wa0 code a) 14 = 0 then bntS code (wa0 code a + 1) else wa0 code a + 1
def up0 (code : List Int) (a : Int) (al : List Config) (cs : List Cmd) : Update := (serveM al cs (al.getD (nxV code a al.length).toNat zConfig).version).update
def up1 (code : List Int) (a : Int) (al : List Config) (cs : List Cmd) : Update := if nxV code (a + 1) 3 = 0 then (fulU (al.getD (nxV code (a + 1 + 1) al.length).toNat zConfig)).update else up0 code a al cs
def ua1 (code : List Int) (a : Int) : Int := if nxV code (a + 1) 3 = 0 then a + 1 + 1 + 1 else a + 1 + 1
def up2 (code : List Int) (a : Int) (u : Update) : Update :=
  if nxV code a 18 = 0 then ⟨pkV code (a + 1) [-1, 1, 1000001], u.to_, u.full, u.config, u.cmds⟩ else
  if nxV code a 18 = 1 then ⟨u.from_, pkV code (a + 1) [-1, u.to_ + 1, 1000001], u.full, u.config, u.cmds⟩ else
  if nxV code a 18 = 2 then ⟨u.from_, u.to_, u.full, u.config, u.cmds ++ [bcmD code (a + 1)]⟩ else
  if nxV code a 18 = 3 then ⟨u.from_, u.to_, !u.full, u.config, u.cmds⟩ else
  if nxV code a 18 = 4 then ⟨u.from_, u.to_, u.full, bntD code (a + 1), u.cmds⟩ else u
def ua2 (code : List Int) (a : Int) : Int :=
  if nxV code a 18 = 0 ∨ nxV code a 18 = 1 then a + 1 + 1 else if nxV code a 18 = 2 then bcmS code (a + 1) else if nxV code a 18 = 4 then bntS code (a + 1) else a + 1
def updD (code : List Int) (a : Int) (al : List Config) (cs : List Cmd) : Update := up2 code (ua1 code a) (up1 code a al cs)
def updS (code : List Int) (a : Int) : Int := ua2 code (ua1 code a)
theorem updS_bd {code : List Int} (hb : okB code) {a : Int} (ha : 0 ≤ a) : a ≤ updS code a ∧ updS code a ≤ a + 180 := by
  have h1 : a + 2 ≤ ua1 code a ∧ ua1 code a ≤ a + 3 := by unfold ua1; split <;> omega
  have h2 := bcmS_bd code (ua1 code a + 1)
  obtain ⟨_, h3, h4⟩ := bntD_ok hb (a := ua1 code a + 1) (by omega)
  unfold updS ua2
  repeat' split
  all_goals omega
theorem serve_zlim {all : List Config} {cmds : List Cmd} {n : Int} {b : Nat} (hb : 1048576 ≤ b) : limU b (serveM all cmds n).update := by
  by_cases h : (serveM all cmds n).code = 0
  · exact serve_lim hb h
  · have hz : limU b zUpdate := ⟨zConfig_lim _, by simp [zUpdate]⟩
    unfold serveM at h ⊢
    split
    · exact hz
    split
    · exact hz
    rename_i h1 h2
    rw [if_neg h1, if_neg h2] at h
    split at h <;> exact absurd rfl h
theorem updD_lim {code : List Int} (hb : okB code) {a : Int} (ha : 0 ≤ a) {al : List Config} {cs : List Cmd} (hl : ∀ y ∈ al, limG 1048576 y) : limU 1048578 (updD code a al cs) := by
  have h1 : a + 2 ≤ ua1 code a ∧ ua1 code a ≤ a + 3 := by unfold ua1; split <;> omega
  obtain ⟨h2, _⟩ := bntD_ok hb (a := ua1 code a + 1) (by omega)
  have hz : limU 1048577 zUpdate := ⟨zConfig_lim _, by simp [zUpdate]⟩
  have h3 : limU 1048577 (up1 code a al cs) := by
    unfold up1
    split
    · unfold fulU
      split
      · exact hz
      · exact ⟨limG_mono (by omega) (getD_lim hl _), by simp⟩
    · unfold up0
      exact serve_zlim (by omega)
  unfold updD up2
  repeat' split
  · exact ⟨limG_mono (by omega) h3.1, Nat.le_succ_of_le h3.2⟩
  · exact ⟨limG_mono (by omega) h3.1, Nat.le_succ_of_le h3.2⟩
  · exact ⟨limG_mono (by omega) h3.1, by have := h3.2; simp only [List.length_append, List.length_singleton]; omega⟩
  · exact ⟨limG_mono (by omega) h3.1, Nat.le_succ_of_le h3.2⟩
  · exact ⟨limG_mono (by omega) h2, Nat.le_succ_of_le h3.2⟩
  · exact ⟨limG_mono (by omega) h3.1, Nat.le_succ_of_le h3.2⟩
def tmL (code : List Int) (al : List Config) (cs : List Cmd) : Nat → Int → List Update → List Update × Int
  | 0, a, out => (out, a)
  | n + 1, a, out => tmL code al cs n (updS code a) (out ++ [updD code a al cs])
theorem tmL_ok {code : List Int} (hb : okB code) {al : List Config} {cs : List Cmd} (hl : ∀ y ∈ al, limG 1048576 y) : ∀ {n : Nat} {a : Int} {out : List Update}, 0 ≤ a → (∀ u ∈ out, limU 1048578 u) →
    (∀ u ∈ (tmL code al cs n a out).1, limU 1048578 u) ∧ (tmL code al cs n a out).1.length = out.length + n ∧ a ≤ (tmL code al cs n a out).2 ∧ (tmL code al cs n a out).2 ≤ a + 180 * n
  | 0, a, out, ha, h => ⟨h, rfl, Int.le_refl _, by simp [tmL]⟩
  | n + 1, a, out, ha, h => by
    have hs := updS_bd hb ha
    rw [tmL]
    obtain ⟨h1, h2, h3, h4⟩ := tmL_ok hb hl (n := n) (a := updS code a) (out := out ++ [updD code a al cs]) (by omega) (fun u hu => by
      rcases List.mem_append.1 hu with hu | hu
      · exact h u hu
      · rw [List.mem_singleton] at hu; rw [hu]; exact updD_lim hb ha hl)
    simp only [List.length_append, List.length_singleton] at h2
    exact ⟨h1, by omega, by omega, by omega⟩
def tyA (code : List Int) : Int := wchS code (hisD code 0).2
def tyW (code : List Int) : Watch := wchD code (hisD code 0).2 (hisD code 0).1.1
def tyL (code : List Int) : List Update × Int := tmL code (hisD code 0).1.1 (hisD code 0).1.2 (nxV code (tyA code) 6).toNat (tyA code + 1) []
def tyU (code : List Int) : List Update := if nxV code (tyL code).2 40 = 0 then List.replicate 41 zUpdate else (tyL code).1
end Go.H
end
section
set_option maxRecDepth 100000
set_option maxHeartbeats 4000000
set_option cbv.maxSteps 4000000
set_option linter.unusedVariables false
set_option linter.unusedSimpArgs false
namespace Go.H
open Go Go.Proofs.Tryz
variable [Inv prog]
theorem s_laws_lwBig (code : List Int) (hc : code.length ≤ 9223372036854775807) : SemX prog 7 [aT (.sl false 1 (code.map eI_u8))] [] [rB (decide (1048576 < code.length))] [] := by
 refine goF [] [] [] func7 ?_
 refine D ?_
 refine E ?_
 first
 | exact trivial
 | rw [show (decide ((1048576 : Int) < code.length)) = decide (1048576 < code.length) by rw [Bool.eq_iff_iff]; simp; omega]
theorem s_spec_l1In (a b c : Int) : SemX prog 62 [.one (.t (.int .i64 a)), .one (.t (.int .i64 b)), .one (.t (.int .i64 c))] [] [.one (.bool (inR a b c))] [] := by
 refine goF [] [] [] func62 ?_
 refine D ?_
 refine E ?_
 first
 | exact trivial
 | simp only [go_sem, inR]; done
 | try simp only [go_sem, inR]
   exact rfl
theorem s_spec_l5Copy (c : Config) (hx : limG 2097152 c) : SemX prog 64 [aS (eConfig false c)] [] [.agg (eConfig true c)] [] := by
 refine goF [(26, ⟨some 4, some 53248, some (29, true), none⟩)] [(1, 1, [8192], []), (1, 2, [], [36864]), (1, 4, [8192], []), (1, 5, [36864], [49152, 36864]), (1, 6, [], [53250]), (1, 7, [], [16384]), (1, 8, [16384], [16384])] [] func64 ?_
 obtain ⟨hb, hv, hV⟩ := id hx
 refine D ?_
 refine L (α := Nat) (fun i => [(4, .int .i64 i)]) (fun i => [(16384, .var [.int .i64 c.version, .ref 49152 0 c.backends.length, .ref 53250 0 i]), (53250, .arr ⟨4, (c.vips.take i).map (eVip true), 1, none⟩)]) (fun i => c.vips.length - i) (fun i => i ≤ c.vips.length) 0 [] (fun i hI => ?_)
 refine D ?_
 refine cC (fun c0 => ?_) (fun c0 => ?_)
 · skip
   have hnl : (c.vips.getD i zVip).names.length ≤ 2097152 := hV _ (getD_mem zVip (by omega))
   refine D ?_
   refine lp_next (i+1) [(53250,143360)] ?_ ?_ ?_
   · simp only [go_sem] <;> and_intros <;> first | with_reducible exact rfl | (first | omega | (rw [take_succ_map _ zVip (by omega)]; simp only [eVip]))
   · omega
   · omega
 · skip
   obtain rfl : i = c.vips.length := by omega
   refine D ?_
   exact E trivial
theorem s_spec_l5Find (c : Config) (hx : limG 2097152 c) (x_ : Cmd) : SemX prog 135 [aT (.ptr (eConfig false c)), aS (eCmd x_)] [] [rI (findV c.vips x_.addr x_.number x_.proto)] [] := by
 refine goF [] [] [] func135 ?_
 obtain ⟨hb, hv, hV⟩ := id hx
 refine D ?_
 refine L (α := Nat) (fun x => [(5, .int .i64 x)]) (fun x => []) (fun x => c.vips.length - x) (fun x => x ≤ c.vips.length ∧ ∀ j, j < x → isV x_.addr x_.number x_.proto (c.vips.getD j zVip) = false) 0 [] (fun x hL => ?_) (hi := by exact ⟨Nat.zero_le _, fun j hj => by omega⟩)
 obtain ⟨hx2, hno⟩ := hL
 refine D ?_
 refine cC (fun c0 => ?_) (fun c0 => ?_)
 · skip
   refine D ?_
   refine cC (fun c1 => ?_) (fun c1 => ?_)
   · skip
     refine D ?_
     refine E ?_
     have he : findV c.vips x_.addr x_.number x_.proto = x := idxG_some zVip (by omega) hno (by simp [isV]; grind)
     rw [he]
   · skip
     refine D ?_
     refine N (x+1) [] (hi := ?_) (hm := ?_)
     · refine ⟨by omega, fun j hj => ?_⟩
       rcases Nat.lt_or_ge j x with h | h
       · exact hno j h
       · obtain rfl : j = x := by omega
         first | exact c1 | (simpa [isB, isV, eqI] using c1) | (simp [isB, isV, eqI]; grind)
     · omega
 · skip
   obtain rfl : x = c.vips.length := by omega
   refine D ?_
   refine E ?_
   have he : findV c.vips x_.addr x_.number x_.proto = -1 := idxG_none zVip hno
   rw [he]
theorem s_spec_l5Behind (a b : Vip) : SemX prog 136 [aS (eVip false a), aS (eVip false b)] [] [rB (behV a b)] [] := by
 refine goF [] [] [] func136 ?_
 refine D ?_
 refine cC (fun c0 => ?_) (fun c0 => ?_)
 · skip
   refine D ?_
   refine E ?_
   first
   | exact trivial
   | simp [behV, *]
 · skip
   refine D ?_
   refine cC (fun c1 => ?_) (fun c1 => ?_)
   · skip
     refine D ?_
     refine E ?_
     first
     | exact trivial
     | simp [behV, *]
   · skip
     refine D ?_
     refine E ?_
     first
     | exact trivial
     | simp [behV, *]
theorem s_spec_l5At (c : Config) (hx : limG 2097152 c) (n : Int) : SemX prog 137 [aT (.ptr (eConfig false c)), aI n] [] [rI (findB c.backends n)] [] := by
 refine goF [] [] [] func137 ?_
 obtain ⟨hb, hv, hV⟩ := id hx
 refine D ?_
 refine L (α := Nat) (fun x => [(5, .int .i64 x)]) (fun x => []) (fun x => c.backends.length - x) (fun x => x ≤ c.backends.length ∧ ∀ j, j < x → isB n (c.backends.getD j zBackend) = false) 0 [] (fun x hL => ?_) (hi := by exact ⟨Nat.zero_le _, fun j hj => by omega⟩)
 obtain ⟨hx2, hno⟩ := hL
 refine D ?_
 refine cC (fun c0 => ?_) (fun c0 => ?_)
 · skip
   refine D ?_
   refine cC (fun c1 => ?_) (fun c1 => ?_)
   · skip
     refine D ?_
     refine E ?_
     have he : findB c.backends n = x := idxG_some zBackend (by omega) hno (by simpa [isB] using c1)
     rw [he]
   · skip
     refine D ?_
     refine N (x+1) [] (hi := ?_) (hm := ?_)
     · refine ⟨by omega, fun j hj => ?_⟩
       rcases Nat.lt_or_ge j x with h | h
       · exact hno j h
       · obtain rfl : j = x := by omega
         first | exact c1 | (simpa [isB, isV, eqI] using c1) | (simp [isB, isV, eqI]; grind)
     · omega
 · skip
   obtain rfl : x = c.backends.length := by omega
   refine D ?_
   refine E ?_
   have he : findB c.backends n = -1 := idxG_none zBackend hno
   rw [he]
theorem s_spec_l1Has (xs : List Int) (n : Int) (hl : xs.length ≤ 2097152) : SemX prog 138 [aT (.sl false 1 (xs.map eI_i64)), aI n] [] [rB (hasG (eqI n) xs)] [] := by
 refine goF [] [] [] func138 ?_
 refine D ?_
 refine L (α := Nat) (fun x => [(5, .int .i64 x)]) (fun x => []) (fun x => xs.length - x) (fun x => x ≤ xs.length ∧ ∀ j, j < x → eqI n (xs.getD j zI_i64) = false) 0 [] (fun x hL => ?_) (hi := by exact ⟨Nat.zero_le _, fun j hj => by omega⟩)
 obtain ⟨hx2, hno⟩ := hL
 refine D ?_
 refine cC (fun c0 => ?_) (fun c0 => ?_)
 · skip
   refine D ?_
   refine cC (fun c1 => ?_) (fun c1 => ?_)
   · skip
     refine D ?_
     refine E ?_
     rw [hasG_true zI_i64 (i := x) (by omega) (by simpa [eqI] using c1)]
   · skip
     refine D ?_
     refine N (x+1) [] (hi := ?_) (hm := ?_)
     · refine ⟨by omega, fun j hj => ?_⟩
       rcases Nat.lt_or_ge j x with h | h
       · exact hno j h
       · obtain rfl : j = x := by omega
         first | exact c1 | (simpa [isB, isV, eqI] using c1) | (simp [isB, isV, eqI]; grind)
     · omega
 · skip
   obtain rfl : x = xs.length := by omega
   refine D ?_
   refine E ?_
   rw [hasG_false zI_i64 hno]
theorem s_spec_l1Rise (xs : List Int) (v : Int) (hl : xs.length ≤ 2097152) : SemX prog 139 [.one (.t (.sl true 1 (xs.map eI_i64))), aI v] [] [.one (.sl true 1 ((riseL xs v).map eI_i64))] [] := by
 refine goF [(76, ⟨some 0, none, none, none⟩)] [(6, 0, [], [139264]), (6, 3, [0], []), (6, 4, [139264, 0], [155648, 139264]), (6, 6, [], [163840]), (6, 7, [155648, 163840], [167936, 155648, 163840]), (6, 10, [0], []), (6, 11, [167936, 0], [184320, 167936])] [] func139 ?_
 refine D ?_
 refine L (α := Nat) (fun i => [(5, .int .i64 i)]) (fun i => []) (fun i => xs.length - i) (fun i => i ≤ xs.length ∧ ∀ q, q < i → xs.getD q zI_i64 < v) 0 [] (fun i hL => ?_) (hi := by exact ⟨Nat.zero_le _, fun q h => by omega⟩)
 obtain ⟨hi, hlo⟩ := hL
 refine D ?_
 refine cC (fun c0 => ?_) (fun c0 => ?_)
 · skip
   refine D ?_
   refine N (i+1) [] (hi := ?_) (hm := ?_)
   · simp at c0
     refine ⟨by omega, fun q hq => ?_⟩
     by_cases e : q = i
     · subst e; exact c0.2
     · exact hlo q (by omega)
   · omega
 · skip
   have hb : lbn xs v = i := lbn_eq hi hlo (fun h => by simp [-List.getD_eq_getElem?_getD] at c0; have := c0 h; omega)
   refine D ?_
   refine cC (fun c1 => ?_) (fun c1 => ?_)
   · skip
     refine D ?_
     refine E ?_
     have he : hasI xs v = true := by simp [hasI, hb]; simpa using c1
     simp [riseL, he]
   · skip
     refine D ?_
     refine E ?_
     have he : hasI xs v = false := by simp [hasI, hb]; simpa using c1
     have hm : min i xs.length = i := by omega
     have e1 : List.take (i + 1) (List.take i (List.map eI_i64 xs) ++ [[T.int .i64 v]]) = List.take i (List.map eI_i64 xs) ++ [[T.int .i64 v]] := List.take_of_length_le (by simp; omega)
     simp [riseL, he, hb, hm, e1]
     exact ⟨List.take_of_length_le (by simp; omega), rfl⟩
section
attribute [local go_sem] List.set_set
theorem s_spec_l5TurnVip (c : Config) (hx : limG 2097152 c) (K : CfOk c) (x_ : Cmd) (hkd : x_.kind = 5 ∨ x_.kind = 6 ∨ x_.kind = 7 ∨ x_.kind = 8) : SemX prog 119 [.one (.ptr 0 0), aS (eCmd x_)] [.var (eConfig true c)] [rI (turnV c x_).1] [.var (eConfig true (turnV c x_).2)] := by
 refine goF [(120, ⟨some 8, none, none, none⟩), (140, ⟨some 8, none, none, none⟩), (138, ⟨some 11, some 1000003, none, some [1000004]⟩), (236, ⟨some 8, none, none, none⟩), (252, ⟨some 8, none, none, none⟩), (250, ⟨some 11, some 1000003, none, some [1000004]⟩), (248, ⟨some 1, none, none, none⟩), (308, ⟨some 2, some 630784, none, none⟩)] [(9, 4, [1000000], []), (9, 11, [1000000], []), (9, 13, [1000003], []), (9, 14, [1000003], []), (9, 15, [28672], []), (9, 16, [1000003], []), (11, 1, [], [217088]), (11, 5, [1000000], []), (11, 7, [1000003], []), (11, 8, [217088, 1000003], [245760, 217088, 1000003]), (11, 9, [28672], []), (11, 10, [], [253952]), (11, 11, [245760, 253952], [258048, 245760, 253952]), (11, 15, [1000000], []), (11, 17, [1000003], []), (11, 18, [258048, 1000003], [286720, 258048, 1000003]), (11, 21, [1000000], [1000000]), (13, 4, [16384], []), (13, 9, [16384], []), (13, 10, [1000000, 1000002, 1000003], []), (13, 16, [16384], []), (13, 22, [1000000], []), (13, 24, [1000003], []), (13, 26, [1000003], []), (13, 28, [16384], []), (13, 29, [1000003], []), (17, 1, [], [454656]), (17, 5, [1000000], []), (17, 7, [1000003], []), (17, 8, [454656, 1000003], [483328, 454656, 1000003]), (17, 12, [1000000], []), (17, 15, [1000003], []), (17, 16, [483328, 1000003], [516096, 483328, 1000003]), (17, 19, [1000000], [1000000]), (19, 3, [1000000], []), (19, 5, [1000003], []), (19, 7, [1000003], []), (19, 9, [16384], []), (19, 10, [1000003], []), (21, 3, [1000000], []), (21, 8, [1000000], []), (21, 10, [1000003], []), (21, 12, [1000003], [1000003, 630784]), (21, 14, [16384], []), (21, 15, [630784], [630784, 643072]), (21, 16, [1000003], []), (21, 18, [1000003, 643072], [1000003, 643072]), (27, 3, [1000000], []), (27, 5, [1000003], []), (27, 7, [1000003], []), (27, 9, [1000003], []), (27, 10, [1000003], []), (27, 12, [16384], [])] [] func119 ?_
 obtain ⟨hb, hv, hV⟩ := id hx
 have hfl : findV c.vips x_.addr x_.number x_.proto < c.vips.length := idxG_bd _ _
 refine D ?_
 refine kR (s_spec_l5Find c hx x_) ?_
 refine D ?_
 refine cC (fun c0 => ?_) (fun c0 => ?_)
 · skip
   refine D ?_
   refine cC (fun c1 => ?_) (fun c1 => ?_)
   · skip
     refine D ?_
     refine E ?_
     have he : turnV c x_ = (7, c) := by unfold turnV; grind
     simp [he]
   · skip
     refine D ?_
     refine cC (fun c2 => ?_) (fun c2 => ?_)
     · skip
       refine D ?_
       refine E ?_
       have he : turnV c x_ = (2, c) := by unfold turnV; grind
       simp [he]
     · skip
       refine D ?_
       refine L (α := Nat) (fun k => [(7, .int .i64 k)]) (fun k => []) (fun k => c.vips.length - k) (fun k => k ≤ c.vips.length ∧ ∀ q, q < k → ltV (vOf x_) (c.vips.getD q zVip) = true) 0 [] (fun k hL => ?_) (hi := by exact ⟨Nat.zero_le _, fun q h => by omega⟩)
       obtain ⟨hk, hlo⟩ := hL
       refine D ?_
       refine kDg (s_spec_l5Behind (c.vips.getD k zVip) ⟨x_.addr, x_.number, x_.proto, []⟩) ?_
       refine D ?_
       refine cC (fun c3 => ?_) (fun c3 => ?_)
       · skip
         refine D ?_
         refine N (k+1) [] (hi := ?_) (hm := ?_)
         · refine ⟨by omega, fun q hq => ?_⟩
           rcases Nat.lt_or_ge q k with h | h
           · exact hlo q h
           · obtain rfl : q = k := by omega
             unfold ltV vOf
             grind
         · omega
       · skip
         have hpk : preG (ltV (vOf x_)) c.vips = k := preG_eq zVip hk hlo (fun h => by unfold ltV vOf; grind)
         have hmk : min k c.vips.length = k := by omega
         have hA := hmk
         refine D ?_
         refine E ?_
         have he : turnV c x_ = (0, { c with vips := putG (ltV (vOf x_)) c.vips (vOf x_) }) := by unfold turnV; grind
         simp [he, putG, hpk]
         exact put_rowsW (eVip true) c.vips hk _
 · skip
   refine D ?_
   refine kDg (s_spec_l5At c hx x_.name) ?_
   refine D ?_
   refine kDg (s_spec_l1Has (c.vips.getD (findV c.vips x_.addr x_.number x_.proto).toNat zVip).names x_.name (limV_getD hV _)) ?_
   refine D ?_
   refine cC (fun c4 => ?_) (fun c4 => ?_)
   · skip
     have hh : ¬ findV c.vips x_.addr x_.number x_.proto < 0 → hasG (eqI x_.name) (c.vips.getD (findV c.vips x_.addr x_.number x_.proto).toNat zVip).names = hasI (c.vips.getD (findV c.vips x_.addr x_.number x_.proto).toNat zVip).names x_.name := fun h => hasI_eq (K.nr _ (by omega)) _
     have hva : vAt c x_ = (findV c.vips x_.addr x_.number x_.proto).toNat := rfl
     refine D ?_
     refine E ?_
     have he : turnV c x_ = (4, c) := by unfold turnV; grind
     simp [he]
   · skip
     have hfn : ¬ findV c.vips x_.addr x_.number x_.proto < 0 := by grind
     obtain ⟨n, hfv, hnl, hnq, hnb⟩ : ∃ n : Nat, findV c.vips x_.addr x_.number x_.proto = n ∧ n < c.vips.length ∧ isV x_.addr x_.number x_.proto (c.vips.getD n zVip) = true ∧ ∀ j, j < n → isV x_.addr x_.number x_.proto (c.vips.getD j zVip) = false := idxG_lt zVip hfn
     have hva : vAt c x_ = n := by unfold vAt; omega
     have hnm : (c.vips.getD n zVip).names.length ≤ 2097152 := limV_getD hV n
     have hrs := K.nr n hnl
     have hhi := hasI_eq hrs x_.name
     have h7 : x_.kind = 7 → ¬ findB c.backends x_.name < 0 := by grind
     have h8 : x_.kind = 8 → hasG (eqI x_.name) (c.vips.getD n zVip).names = true := by
       intro h
       have e : (findV c.vips x_.addr x_.number x_.proto).toNat = n := by omega
       simp [h, e] at c4
       grind
     have hmn : min n c.vips.length = n := by omega
     have hA := And.intro hfv (hmn)
     refine D ?_
     refine cC (fun c5 => ?_) (fun c5 => ?_)
     · skip
       refine D ?_
       refine E ?_
       have he : turnV c x_ = (0, { c with vips := cutG c.vips (vAt c x_) }) := by unfold turnV; grind
       rw [he, hva]
       simp only [cut_rowsV c.vips hnl]
       and_intros <;> first | trivial | rfl | decide
     · skip
       refine D ?_
       refine cC (fun c6 => ?_) (fun c6 => ?_)
       · skip
         refine D ?_
         refine kD (s_spec_l1Has (c.vips.getD n zVip).names x_.name hnm) ?_
         refine D ?_
         refine cC (fun c7 => ?_) (fun c7 => ?_)
         · skip
           refine D ?_
           refine E ?_
           have he : turnV c x_ = (7, c) := by unfold turnV; grind
           simp [he]
         · skip
           have hgs := fun r d => getD_set_self (l := c.vips.map (eVip true)) (i := n) (by simp; omega) r d
           have hA := And.intro hA (hgs)
           refine D ?_
           refine kDk [] [630784] [] (s_spec_l1Rise (c.vips.getD n zVip).names x_.name hnm) ?_
           refine D ?_
           refine E ?_
           have he : turnV c x_ = (0, setV c (vAt c x_) { c.vips.getD (vAt c x_) zVip with names := riseL (c.vips.getD (vAt c x_) zVip).names x_.name }) := by unfold turnV; grind
           simp [he, setV, hva, eVip, List.map_set, List.set_set]
       · skip
         refine D ?_
         refine cC (fun c8 => ?_) (fun c8 => ?_)
         · skip
           refine D ?_
           refine L (α := Nat) (fun i => [(8, .ref 663552 0 (((c.vips.getD n zVip).names.take i).filter (notI x_.name)).length), (9, .int .i64 i)]) (fun i => [(663552, .arr ⟨1, (((c.vips.getD n zVip).names.take i).filter (notI x_.name)).map eI_i64, 1, none⟩)]) (fun i => (c.vips.getD n zVip).names.length - i) (fun i => i ≤ (c.vips.getD n zVip).names.length) 0 [] (fun i hI => ?_)
           have hfl : (((c.vips.getD n zVip).names.take i).filter (notI x_.name)).length ≤ i := by
             have := List.length_filter_le (notI x_.name) ((c.vips.getD n zVip).names.take i)
             rw [List.length_take] at this
             omega
           refine D ?_
           refine cC (fun c9 => ?_) (fun c9 => ?_)
           · skip
             refine D ?_
             refine cC (fun c10 => ?_) (fun c10 => ?_)
             · skip
               have hft := filter_take (notI x_.name) zI_i64 (xs := (c.vips.getD n zVip).names) (i := i) (by omega)
               rw [if_pos (by simpa [notI] using c10)] at hft
               have hA := And.intro hA (hft)
               refine D ?_
               refine lp_next (i+1) [(663552,831488)] ?_ ?_ ?_
               · simp only [go_sem, hA] <;> and_intros <;> first | with_reducible exact rfl | (first | with_reducible exact rfl | omega | (rw [hft]; simp [eI_i64]; done) | (rw [hft]; done) | (simp [hft, eI_i64]; done))
               · omega
               · omega
             · skip
               have hft := filter_take (notI x_.name) zI_i64 (xs := (c.vips.getD n zVip).names) (i := i) (by omega)
               rw [if_neg (by simpa [notI] using c10), List.append_nil] at hft
               have hA := And.intro hA (hft)
               refine D ?_
               refine lp_next (i+1) [] ?_ ?_ ?_
               · simp only [go_sem, hA] <;> and_intros <;> first | with_reducible exact rfl | (first | with_reducible exact rfl | omega | (rw [hft]; simp [eI_i64]; done) | (rw [hft]; done) | (simp [hft, eI_i64]; done))
               · omega
               · omega
           · skip
             obtain rfl : i = (c.vips.getD n zVip).names.length := by omega
             refine D ?_
             refine E ?_
             have he : turnV c x_ = (0, setV c (vAt c x_) { c.vips.getD (vAt c x_) zVip with names := cutG (c.vips.getD (vAt c x_) zVip).names (lbn (c.vips.getD (vAt c x_) zVip).names x_.name) }) := by unfold turnV; grind
             have hwo := without_eq hrs (v := x_.name) (by rw [← hhi]; exact h8 c8)
             rw [hwo]
             simp [he, setV, hva, eVip, List.map_set, List.set_set]
         · skip
           refine D ?_
           refine E ?_
           exfalso; omega
end
theorem s_spec_l5Serves (c : Config) (hx : limG 2097152 c) (n : Int) : SemX prog 140 [aT (.ptr (eConfig false c)), aI n] [] [rB (serves c.vips n)] [] := by
 refine goF [] [] [] func140 ?_
 obtain ⟨hb, hv, hV⟩ := id hx
 refine D ?_
 refine L (α := Nat) (fun x => [(5, .int .i64 x)]) (fun x => []) (fun x => c.vips.length - x) (fun x => x ≤ c.vips.length ∧ ∀ j, j < x → (fun v => hasG (eqI n) v.names) (c.vips.getD j zVip) = false) 0 [] (fun x hL => ?_) (hi := by exact ⟨Nat.zero_le _, fun j hj => by omega⟩)
 obtain ⟨hx2, hno⟩ := hL
 refine D ?_
 refine cC (fun c0 => ?_) (fun c0 => ?_)
 · skip
   refine D ?_
   refine kR (s_spec_l1Has (c.vips.getD x zVip).names n (hV _ (getD_mem zVip (by omega)))) ?_
   refine D ?_
   refine cC (fun c1 => ?_) (fun c1 => ?_)
   · skip
     refine D ?_
     refine E ?_
     have he : serves c.vips n = true := hasG_true zVip (i := x) (by omega) (by simpa using c1)
     rw [he]
   · skip
     refine D ?_
     refine N (x+1) [] (hi := ?_) (hm := ?_)
     · refine ⟨by omega, fun j hj => ?_⟩
       rcases Nat.lt_or_ge j x with h | h
       · exact hno j h
       · obtain rfl : j = x := by omega
         first | exact c1 | (simpa [isB, isV, eqI] using c1) | (simp [isB, isV, eqI]; grind)
     · omega
 · skip
   obtain rfl : x = c.vips.length := by omega
   refine D ?_
   refine E ?_
   have he : serves c.vips n = false := hasG_false zVip hno
   rw [he]
theorem s_spec_l5Turn (c : Config) (hx : limG 2097152 c) (K : CfOk c) (x_ : Cmd) (hkd : x_.kind = 1 ∨ x_.kind = 2 ∨ x_.kind = 3 ∨ x_.kind = 4 ∨ x_.kind = 9) : SemX prog 120 [.one (.ptr 0 0), aS (eCmd x_)] [.var (eConfig true c)] [rI (turnB c x_).1] [.var (eConfig true (turnB c x_).2)] := by
 refine goF [(282, ⟨some 1, none, none, none⟩)] [(8, 4, [1000000], []), (8, 11, [1000000], []), (8, 13, [1000002], []), (8, 15, [1000002], []), (8, 17, [16384], []), (11, 1, [], [221184]), (11, 5, [1000000], []), (11, 7, [1000002], []), (11, 8, [221184, 1000002], [249856, 221184]), (11, 9, [32768], []), (11, 10, [], [258048]), (11, 11, [249856, 258048], [262144, 249856, 258048]), (11, 15, [1000000], []), (11, 17, [1000002], []), (11, 18, [262144, 1000002], [290816, 262144]), (11, 21, [1000000], [1000000]), (17, 3, [1000000], []), (17, 6, [16384], []), (17, 7, [1000002], []), (17, 9, [1000002], [1000002]), (19, 3, [1000000], []), (19, 6, [16384], []), (19, 7, [1000002], []), (19, 9, [1000002], [1000002]), (21, 3, [1000000], []), (21, 6, [16384], []), (21, 8, [1000002], []), (21, 10, [1000002], [1000002]), (27, 1, [], [524288]), (27, 5, [1000000], []), (27, 7, [1000002], []), (27, 8, [524288, 1000002], [552960, 524288]), (27, 12, [1000000], []), (27, 15, [1000002], []), (27, 16, [552960, 1000002], [585728, 552960]), (27, 19, [1000000], [1000000])] [] func120 ?_
 obtain ⟨hb, hv, hV⟩ := id hx
 refine D ?_
 refine kR (s_spec_l5At c hx x_.name) ?_
 refine D ?_
 refine cC (fun c0 => ?_) (fun c0 => ?_)
 · skip
   refine D ?_
   refine cC (fun c1 => ?_) (fun c1 => ?_)
   · skip
     refine D ?_
     refine E ?_
     have he : turnB c x_ = (7, c) := by unfold turnB; grind
     simp [he]
   · skip
     refine D ?_
     refine cC (fun c2 => ?_) (fun c2 => ?_)
     · skip
       refine D ?_
       refine E ?_
       have he : turnB c x_ = (2, c) := by unfold turnB; grind
       simp [he]
     · skip
       refine D ?_
       refine L (α := Nat) (fun k => [(6, .int .i64 k)]) (fun k => []) (fun k => c.backends.length - k) (fun k => k ≤ c.backends.length ∧ ∀ q, q < k → ltB x_.name (c.backends.getD q zBackend) = true) 0 [] (fun k hL => ?_) (hi := by exact ⟨Nat.zero_le _, fun q h => by omega⟩)
       obtain ⟨hk, hlo⟩ := hL
       refine D ?_
       refine cC (fun c3 => ?_) (fun c3 => ?_)
       · skip
         refine D ?_
         refine N (k+1) [] (hi := ?_) (hm := ?_)
         · refine ⟨by omega, fun q hq => ?_⟩
           rcases Nat.lt_or_ge q k with h | h
           · exact hlo q h
           · obtain rfl : q = k := by omega
             unfold ltB
             grind
         · omega
       · skip
         have hpk : preG (ltB x_.name) c.backends = k := preG_eq zBackend hk hlo (fun h => by unfold ltB; grind)
         refine D ?_
         refine E ?_
         have he : turnB c x_ = (0, { c with backends := putG (ltB x_.name) c.backends (bOf x_) }) := by unfold turnB; grind
         simp [he, putG, hpk, bOf, eBackend]
         exact ⟨put_rows eBackend c.backends hk _, rfl⟩
 · skip
   refine D ?_
   refine cC (fun c4 => ?_) (fun c4 => ?_)
   · skip
     refine D ?_
     refine E ?_
     have he : turnB c x_ = (4, c) := by unfold turnB; grind
     simp [he]
   · skip
     obtain ⟨n, hfb, hnl, hnq, hnb⟩ : ∃ n : Nat, findB c.backends x_.name = n ∧ n < c.backends.length ∧ isB x_.name (c.backends.getD n zBackend) = true ∧ ∀ j, j < n → isB x_.name (c.backends.getD j zBackend) = false := idxG_lt zBackend c4
     have hba : bAt c x_.name = n := by unfold bAt; omega
     have hA := hfb
     refine D ?_
     refine cC (fun c5 => ?_) (fun c5 => ?_)
     · skip
       refine D ?_
       refine E ?_
       have he : turnB c x_ = (0, setB c (bAt c x_.name) { c.backends.getD (bAt c x_.name) zBackend with weight := x_.number }) := by unfold turnB; grind
       
       simp [he, setB, hba, List.map_set, eBackend, List.set_set]
     · skip
       refine D ?_
       refine cC (fun c6 => ?_) (fun c6 => ?_)
       · skip
         refine D ?_
         refine E ?_
         have he : turnB c x_ = (0, setB c (bAt c x_.name) { c.backends.getD (bAt c x_.name) zBackend with stage := x_.number }) := by unfold turnB; grind
         
         simp [he, setB, hba, List.map_set, eBackend, List.set_set]
       · skip
         refine D ?_
         refine cC (fun c7 => ?_) (fun c7 => ?_)
         · skip
           refine D ?_
           refine E ?_
           have he : turnB c x_ = (0, setB c (bAt c x_.name) { c.backends.getD (bAt c x_.name) zBackend with up := decide (x_.number = 1) }) := by unfold turnB; grind
           
           simp [he, setB, hba, List.map_set, eBackend, List.set_set]
         · skip
           refine D ?_
           refine cC (fun c8 => ?_) (fun c8 => ?_)
           · skip
             refine D ?_
             refine cC (fun c9 => ?_) (fun c9 => ?_)
             · skip
               refine D ?_
               refine E ?_
               have he : turnB c x_ = (10, c) := by unfold turnB; grind
               simp [he]
             · skip
               refine D ?_
               refine kR (s_spec_l5Serves c hx x_.name) ?_
               refine D ?_
               refine cC (fun c10 => ?_) (fun c10 => ?_)
               · skip
                 refine D ?_
                 refine E ?_
                 have he : turnB c x_ = (8, c) := by unfold turnB; grind
                 simp [he]
               · skip
                 refine D ?_
                 refine E ?_
                 have he : turnB c x_ = (0, { c with backends := cutG c.backends (bAt c x_.name) }) := by unfold turnB; grind
                 
                 simp [he, cutG, hba]
                 exact ⟨cut_rows eBackend c.backends hnl, rfl⟩
           · skip
             refine D ?_
             refine E ?_
             exfalso; omega
theorem s_spec_l5Apply (c : Config) (hx1 : limG 2097151 c) (K : CfOk c) (x_ : Cmd) (hcf : cmdFault x_ = 0) : SemX prog 97 [aS (eConfig false c), aS (eCmd x_)] [] [.agg (eConfigResult true (applyR c x_))] [] := by
 refine goF [(76, ⟨some 1, none, none, none⟩)] [] [] func97 ?_
 have hx : limG 2097152 c := limG_mono (by omega) hx1
 obtain ⟨hb, hv, hV⟩ := id hx
 have hk9 : 1 ≤ x_.kind ∧ x_.kind ≤ 9 := by
   unfold cmdFault at hcf
   cases h : inR x_.kind 1 9 with
   | false => simp [h] at hcf
   | true => simpa [inR] using h
 have hk0 := K.v0
 have hk1 := K.v1
 refine D ?_
 refine cC (fun c0 => ?_) (fun c0 => ?_)
 · skip
   refine D ?_
   refine E ?_
   have he : applyR c x_ = badC 3 := by unfold applyR; grind
   simp [he, badC, zConfig]
 · skip
   refine D ?_
   refine cC (fun c1 => ?_) (fun c1 => ?_)
   · skip
     refine D ?_
     refine E ?_
     have he : applyR c x_ = badC 9 := by unfold applyR; grind
     simp [he, badC, zConfig]
   · skip
     refine D ?_
     refine kR (s_spec_l5Copy c hx) ?_
     refine D ?_
     refine kR (s_spec_l1In x_.kind 5 8) ?_
     refine D ?_
     refine cC (fun c2 => ?_) (fun c2 => ?_)
     · skip
       have hin : inR x_.kind 5 8 = true := by simpa using c2
       have hkd : x_.kind = 5 ∨ x_.kind = 6 ∨ x_.kind = 7 ∨ x_.kind = 8 := by simp [inR] at hin; omega
       have htu : turned c x_ = turnV c x_ := by unfold turned; rw [if_pos hin]
       refine D ?_
       refine kRk [24576] [] [98305, 98306] (s_spec_l5TurnVip c hx K x_ hkd) ?_
       refine D ?_
       refine cC (fun c3 => ?_) (fun c3 => ?_)
       · skip
         refine D ?_
         refine E ?_
         have he : applyR c x_ = badC (turnV c x_).1 := by unfold applyR; grind
         simp [he, badC, zConfig]
       · skip
         refine D ?_
         refine E ?_
         have he : applyR c x_ = ⟨0, { (turnV c x_).2 with version := c.version + 1 }⟩ := by unfold applyR; grind
         simp [he, badC, zConfig]
     · skip
       have hin : inR x_.kind 5 8 = false := by simpa using c2
       have hkd : x_.kind = 1 ∨ x_.kind = 2 ∨ x_.kind = 3 ∨ x_.kind = 4 ∨ x_.kind = 9 := by simp [inR] at hin; omega
       have htu : turned c x_ = turnB c x_ := by unfold turned; rw [if_neg (by rw [hin]; simp)]
       refine D ?_
       refine kRk [24576] [] [98305, 98306] (s_spec_l5Turn c hx K x_ hkd) ?_
       refine D ?_
       refine cC (fun c3 => ?_) (fun c3 => ?_)
       · skip
         refine D ?_
         refine E ?_
         have he : applyR c x_ = badC (turnB c x_).1 := by unfold applyR; grind
         simp [he, badC, zConfig]
       · skip
         refine D ?_
         refine E ?_
         have he : applyR c x_ = ⟨0, { (turnB c x_).2 with version := c.version + 1 }⟩ := by unfold applyR; grind
         simp [he, badC, zConfig]
theorem s_slices_Clone_Backend (xs : List Backend) (hl : xs.length ≤ 2097152) : SemX prog 81 [aT (.sl false 5 (xs.map eBackend))] [] [.one (.sl true 5 (xs.map eBackend))] [] := by
 refine goF [] [] [] func81 ?_
 refine D ?_
 refine RW_isn (fun b => xs.map eBackend ≠ [] → b = false) rfl rfl (by simp only [go_sem] <;> and_intros <;> first | with_reducible exact rfl | omega | with_reducible trivial | (intros; simp_all; done) | grind) (fun b hb => ?_)
 refine D ?_
 refine cC (fun c0 => ?_) (fun c0 => ?_)
 · skip
   have hx : xs = [] := by
     cases xs with
     | nil => rfl
     | cons a l => have := hb (by simp); rw [this] at c0; cases c0
   subst hx
   refine D ?_
   exact E trivial
 · skip
   refine D ?_
   exact E trivial
theorem s_slices_Clone_Vip (xs : List Vip) (hl : xs.length ≤ 2097152) : SemX prog 82 [aT (.sl false 4 (xs.map (eVip false)))] [] [.one (.sl true 4 (xs.map (eVip false)))] [] := by
 refine goF [] [] [] func82 ?_
 refine D ?_
 refine RW_isn (fun b => xs.map (eVip false) ≠ [] → b = false) rfl rfl (by simp only [go_sem] <;> and_intros <;> first | with_reducible exact rfl | omega | with_reducible trivial | (intros; simp_all; done) | grind) (fun b hb => ?_)
 refine D ?_
 refine cC (fun c0 => ?_) (fun c0 => ?_)
 · skip
   have hx : xs = [] := by
     cases xs with
     | nil => rfl
     | cons a l => have := hb (by simp); rw [this] at c0; cases c0
   subst hx
   refine D ?_
   exact E trivial
 · skip
   refine D ?_
   exact E trivial
theorem s_slices_Clone_int64 (xs : List Int) (hl : xs.length ≤ 2097152) : SemX prog 83 [aT (.sl false 1 (xs.map eI_i64))] [] [.one (.sl true 1 (xs.map eI_i64))] [] := by
 refine goF [] [] [] func83 ?_
 refine D ?_
 refine RW_isn (fun b => xs.map eI_i64 ≠ [] → b = false) rfl rfl (by simp only [go_sem] <;> and_intros <;> first | with_reducible exact rfl | omega | with_reducible trivial | (intros; simp_all; done) | grind) (fun b hb => ?_)
 refine D ?_
 refine cC (fun c0 => ?_) (fun c0 => ?_)
 · skip
   have hx : xs = [] := by
     cases xs with
     | nil => rfl
     | cons a l => have := hb (by simp); rw [this] at c0; cases c0
   subst hx
   refine D ?_
   exact E trivial
 · skip
   refine D ?_
   exact E trivial
theorem s_impl_Config_copied (c : Config) (hx : limG 2097152 c) : SemX prog 36 [aS (eConfig false c)] [] [.agg (eConfig true c)] [] := by
 refine goF [] [(1, 1, [8192], []), (1, 2, [], [32768]), (1, 4, [8192], []), (1, 5, [], [45056]), (1, 7, [8192], [8192]), (1, 9, [8192], [8192]), (5, 1, [8192], []), (5, 4, [20480], []), (5, 5, [45056], [110592]), (5, 6, [45056], []), (5, 8, [45056, 110592], [45056, 110592])] [] func36 ?_
 obtain ⟨hb, hv, hV⟩ := id hx
 refine D ?_
 refine kD (s_slices_Clone_Backend c.backends hb) ?_
 refine D ?_
 refine DW_callN (by kernel_rfl) (s_slices_Clone_Vip c.vips hv) false [] [] [] rfl rfl (by decide) trivial (by simp only [go_sem] <;> and_intros <;> first | with_reducible exact rfl | omega | with_reducible trivial | (intros; simp_all; done) | grind) (by first | rfl | (simp only [go_sem]; done)) (by simp only [go_sem]; exact rfl) ?_
 refine D ?_
 refine L (α := Nat) (fun i => [(16, .int .i64 i)]) (fun i => [(45056, .arr ⟨4, (c.vips.take i).map (eVip true) ++ (c.vips.drop i).map (eVip false), 1 + i, none⟩)]) (fun i => c.vips.length - i) (fun i => i ≤ c.vips.length) 0 [] (fun i hI => ?_)
 refine D ?_
 refine cC (fun c0 => ?_) (fun c0 => ?_)
 · skip
   have hg := mix_getD (eVip true) (eVip false) zVip (xs := c.vips) (i := i) (by omega)
   have hA := hg
   refine D ?_
   refine kD (s_slices_Clone_int64 (c.vips.getD i zVip).names (hV _ (getD_mem zVip (by omega)))) ?_
   refine D ?_
   refine lp_next (i+1) [] ?_ ?_ ?_
   · simp only [go_sem, hA] <;> and_intros <;> first | with_reducible exact rfl | (first | omega | (refine arr_eq ?_ (by omega); rw [← mix_set (eVip true) (eVip false) zVip (by omega)]; simp only [eVip]))
   · omega
   · omega
 · skip
   obtain rfl : i = c.vips.length := by omega
   refine D ?_
   refine E ?_
   first
   | exact trivial
   | rw [List.drop_length, List.map_nil, List.append_nil, List.take_of_length_le (by simp)]
theorem s_cmp_Or_int (xs : List Int) (hl : xs.length ≤ 2097152) : SemX prog 88 [aT (.sl false 1 (xs.map eI_i64))] [] [rI (orL xs)] [] := by
 refine goF [] [] [] func88 ?_
 refine D ?_
 refine L (α := Nat) (fun x => [(8, .int .i64 x)]) (fun x => []) (fun x => xs.length - x) (fun x => x ≤ xs.length ∧ ∀ j, j < x → xs.getD j zI_i64 = 0) 0 [] (fun x hL => ?_) (hi := by exact ⟨Nat.zero_le _, fun j hj => by omega⟩)
 obtain ⟨hx, hno⟩ := hL
 refine D ?_
 refine cC (fun c0 => ?_) (fun c0 => ?_)
 · skip
   refine D ?_
   refine cC (fun c1 => ?_) (fun c1 => ?_)
   · skip
     refine D ?_
     refine E ?_
     rw [orL_some (by omega) hno (by simpa using c1)]
   · skip
     refine D ?_
     refine N (x+1) [] (hi := ?_) (hm := ?_)
     · refine ⟨by omega, fun j hj => ?_⟩
       rcases Nat.lt_or_ge j x with h | h
       · exact hno j h
       · obtain rfl : j = x := by omega
         simpa using c1
     · omega
 · skip
   obtain rfl : x = xs.length := by omega
   refine D ?_
   refine E ?_
   rw [orL_zero hno]
theorem s_cmp_isNaN_int64 (a : Int) : SemX prog 117 [aI a] [] [rB false] [] := by
 refine goF [] [] [] func117 ?_
 refine D ?_
 exact E trivial
theorem s_cmp_Compare_int64 (a b : Int) : SemX prog 89 [aI a, aI b] [] [rI (cmpI a b)] [] := by
 refine goF [] [] [] func89 ?_
 refine D ?_
 refine kR (s_cmp_isNaN_int64 _) ?_
 refine D ?_
 refine kR (s_cmp_isNaN_int64 _) ?_
 refine D ?_
 refine cC (fun c0 => ?_) (fun c0 => ?_)
 · skip
   refine D ?_
   refine cC (fun c1 => ?_) (fun c1 => ?_)
   · skip
     refine D ?_
     refine E ?_
     first
     | exact trivial
     | first | (exfalso; simp_all; done) | (simp [cmpI, *]; done) | (simp [cmpI]; omega) | (unfold cmpI; grind)
   · skip
     refine D ?_
     refine E ?_
     first
     | exact trivial
     | first | (exfalso; simp_all; done) | (simp [cmpI, *]; done) | (simp [cmpI]; omega) | (unfold cmpI; grind)
 · skip
   refine D ?_
   refine cC (fun c2 => ?_) (fun c2 => ?_)
   · skip
     refine D ?_
     refine E ?_
     first
     | exact trivial
     | first | (exfalso; simp_all; done) | (simp [cmpI, *]; done) | (simp [cmpI]; omega) | (unfold cmpI; grind)
   · skip
     refine D ?_
     refine cC (fun c3 => ?_) (fun c3 => ?_)
     · skip
       refine D ?_
       refine E ?_
       first
       | exact trivial
       | first | (exfalso; simp_all; done) | (simp [cmpI, *]; done) | (simp [cmpI]; omega) | (unfold cmpI; grind)
     · skip
       refine D ?_
       refine cC (fun c4 => ?_) (fun c4 => ?_)
       · skip
         refine D ?_
         refine E ?_
         first
         | exact trivial
         | first | (exfalso; simp_all; done) | (simp [cmpI, *]; done) | (simp [cmpI]; omega) | (unfold cmpI; grind)
       · skip
         refine D ?_
         refine E ?_
         first
         | exact trivial
         | first | (exfalso; simp_all; done) | (simp [cmpI, *]; done) | (simp [cmpI]; omega) | (unfold cmpI; grind)
theorem s_impl_compareVip (a b : Vip) : SemX prog 45 [aS (eVip false a), aS (eVip false b)] [] [rI (cmpV a b)] [] := by
 refine goF [] [(1, 1, [12288], []), (1, 3, [16384], []), (1, 6, [12288], []), (1, 8, [16384], []), (1, 11, [12288], []), (1, 13, [16384], []), (1, 15, [], [86016]), (1, 16, [86016], [])] [] func45 ?_
 refine D ?_
 refine kD (s_cmp_Compare_int64 a.address b.address) ?_
 refine D ?_
 refine kD (s_cmp_Compare_int64 a.port b.port) ?_
 refine D ?_
 refine kD (s_cmp_Compare_int64 a.proto b.proto) ?_
 refine D ?_
 refine kD (s_cmp_Or_int [cmpI a.address b.address, cmpI a.port b.port, cmpI a.proto b.proto] (by simp)) ?_
 refine D ?_
 refine E ?_
 first
 | exact trivial
 | rw [cmpV_or]
theorem s_impl_compareVip_raw (a b : RVp) : SemX prog 45 [aS (eRV a), aS (eRV b)] [] [rI (cmpV a.1 b.1)] [] := by
 refine goF [] [(1, 1, [12288], []), (1, 3, [16384], []), (1, 6, [12288], []), (1, 8, [16384], []), (1, 11, [12288], []), (1, 13, [16384], []), (1, 15, [], [86016]), (1, 16, [86016], [])] [] func45 ?_
 refine D ?_
 refine kD (s_cmp_Compare_int64 a.1.address b.1.address) ?_
 refine D ?_
 refine kD (s_cmp_Compare_int64 a.1.port b.1.port) ?_
 refine D ?_
 refine kD (s_cmp_Compare_int64 a.1.proto b.1.proto) ?_
 refine D ?_
 refine kD (s_cmp_Or_int [cmpI a.1.address b.1.address, cmpI a.1.port b.1.port, cmpI a.1.proto b.1.proto] (by simp)) ?_
 refine D ?_
 refine E ?_
 first
 | exact trivial
 | rw [cmpV_or]
theorem s_slices_IndexFunc_Backend (R : List Backend) (hl : R.length ≤ 2097152) (fn : Nat) (n : Int) (q : Backend → Bool) (hq : callB prog fn = true) (hf : ∀ b : Backend, b ∈ R → SemX prog fn [aS (eBackend b), aT (.ptr [.int .i64 n])] [] [rB (q b)] []) : SemX prog 91 [aT (.sl false 5 (R.map eBackend)), .one (.fn fn [.t (.ptr [.int .i64 n])])] [] [rI (idxG q R)] [] := by
 refine goF [] [] [] func91 ?_
 refine D ?_
 refine L (α := Nat) (fun x => [(8, .int .i64 x)]) (fun x => []) (fun x => R.length - x) (fun x => x ≤ R.length ∧ ∀ j, j < x → q (R.getD j zBackend) = false) 0 [] (fun x hL => ?_) (hi := by exact ⟨Nat.zero_le _, fun j hj => by omega⟩)
 obtain ⟨hx2, hno⟩ := hL
 refine D ?_
 refine cC (fun c0 => ?_) (fun c0 => ?_)
 · skip
   refine D ?_
   refine kR (hf (R.getD x zBackend) (getD_mem zBackend (by omega))) ?_ hq
   refine D ?_
   refine cC (fun c1 => ?_) (fun c1 => ?_)
   · skip
     refine D ?_
     refine E ?_
     rw [idxG_some zBackend (by omega) hno c1]
   · skip
     refine D ?_
     refine N (x+1) [] (hi := ?_) (hm := ?_)
     · refine ⟨by omega, fun j hj => ?_⟩
       rcases Nat.lt_or_ge j x with h | h
       · exact hno j h
       · obtain rfl : j = x := by omega
         first | exact c1 | (simpa [isB, isV, eqI] using c1) | (simp [isB, isV, eqI]; grind)
     · omega
 · skip
   obtain rfl : x = R.length := by omega
   refine D ?_
   refine E ?_
   rw [idxG_none zBackend hno]
theorem s_impl_Config_backend_1 (b : Backend) (n : Int) : SemX prog 92 [aS (eBackend b), aT (.ptr [.int .i64 n])] [] [rB (isB n b)] [] := by
 refine goF [] [] [] func92 ?_
 refine D ?_
 refine E ?_
 first
 | exact trivial
 | simp only [go_sem, isB]
end Go.H
end
